/-
  What the functions under this seat's laws read as, in the reader's words; no conditions.
-/
import Derived.Test.YtmkdhgigghgieaaSyStep
import Derived.Test.YtmkdhgigghgieaaProg
import Derived.KernelRfl
namespace Go.Sy
open Go.Proofs
def kpT : FuncId → Option (List Nat)
  | 3 => some [0, 1, 2, 3, 6, 7, 8, 9, 10, 11, 12, 13, 14, 15, 16, 18, 59, 69, 80, 88]
  | 4 => some [0, 1, 2, 3, 5, 6, 7, 8, 9, 11, 12]
  | 5 => some [0, 1, 2, 3, 6, 7, 8, 9, 10, 11, 12, 13, 14, 15, 16, 17, 81, 85, 97]
  | 6 => some [0, 1, 2, 3, 4, 8, 9, 10, 11, 12, 13, 14, 15, 16, 17, 18, 19, 20, 21, 22, 24, 32, 88, 136, 137]
  | 7 => some [0, 1, 2, 3, 4]
  | 8 => some [0, 2, 3, 4, 13]
  | 9 => some [0, 1, 4, 6]
  | 10 => some [0, 1, 2, 4, 5]
  | 11 => some [0, 1, 2, 3, 4, 5, 6, 9, 17, 19]
  | 12 => some [0, 1, 3, 4, 5, 6, 7, 9, 11, 12, 15, 45, 49]
  | 13 => some [0, 1, 2, 4]
  | 14 => some [0, 1, 2, 3, 5, 10]
  | 15 => some [0, 1, 2, 4, 5]
  | 16 => some [0, 1, 2, 4, 5]
  | 17 => some [0, 1, 2, 4, 5, 6, 7, 8, 9, 14, 29]
  | 18 => some [0, 1, 2, 3, 5, 6, 7]
  | 19 => some [0, 2]
  | 20 => some [0, 1, 2, 3, 6, 7, 8, 9, 14, 23]
  | 21 => some [0, 1, 4, 5, 7, 8, 9, 10, 11, 18]
  | 22 => some [0, 1, 4, 5, 6, 11, 21]
  | 23 => some [0, 1, 2, 3, 4, 7]
  | 24 => some [0, 1, 4, 5, 9, 17]
  | 25 => some [0, 1, 2, 3, 4, 6, 7, 8, 9, 10, 17, 27, 47]
  | 26 => some [0, 1, 2]
  | 27 => some [0, 1, 2, 3, 6, 7, 8, 9, 11, 12, 13, 17, 18, 19, 20, 27, 36]
  | 28 => some [2]
  | 29 => some [0, 1, 2, 3, 6, 8, 19]
  | 30 => some [0, 2]
  | 31 => some [0, 1, 4, 5, 6, 7]
  | 32 => some [0, 2]
  | 33 => some [0, 1, 3, 4, 5, 6, 7, 12]
  | 34 => some [0, 1, 2, 5]
  | 35 => some [0, 1, 2, 3, 4, 6, 7, 8, 9, 10, 11, 12, 15, 45, 49, 55, 77]
  | 36 => some [0, 1, 3]
  | 37 => some [0, 1, 4]
  | 38 => some [0, 1, 4, 5, 9, 17]
  | 39 => some [0, 1, 2, 3, 4]
  | 40 => some [0, 2, 4]
  | 41 => some [0, 1, 2, 5, 6, 7, 8, 9, 10, 13]
  | 42 => some [0, 2]
  | 43 => some [0, 1, 2, 6, 7, 8, 9, 25, 29]
  | 44 => some [0, 1, 4, 5, 9]
  | 45 => some [0, 2]
  | 46 => some [0, 1, 2, 3, 4, 5]
  | 47 => some [0, 1, 2, 3]
  | 48 => some [0, 1, 2, 5, 6, 7, 8, 11]
  | 49 => some [0, 1, 4, 5, 7, 8, 9, 16]
  | 50 => some [0, 1, 4, 5, 10, 14, 25]
  | 51 => some [0, 2, 3, 4, 5, 6]
  | 52 => some [0, 2, 3, 5, 7, 8, 9, 10]
  | 53 => some [0, 1, 4, 5, 6, 9, 17]
  | 54 => some [0, 1, 4, 5]
  | 55 => some [0, 2]
  | 56 => some [0]
  | 57 => some [0, 1, 2, 4, 6, 7, 8, 9, 10]
  | 58 => some [0, 1, 2]
  | 59 => some [0, 1, 2, 6, 7, 8, 9, 25, 26, 27, 28]
  | 60 => some [0, 1, 4, 5, 6, 7, 8]
  | _ => none
def mdT : FuncId → FuncId → Md
  | _ => md0
noncomputable def cx0 : Cx := { P := Try.prog, md := mdT, kp := kpT }
def ext0 : FnA := fun _ _ _ => none
theorem ext0_ok (f : FuncId) (args : List AV) (bx : Bx) (r : AV) (bx' : Bx) (h : ext0 f args bx = some (r, bx')) : Sound cx0.P f args bx r bx' := by simp [ext0] at h
/-- scupper/scupperlaw15.RollOn -/
def kp_l15_RollOn : Option (List Nat) := some [0, 1, 2, 3, 6, 7, 8, 9, 10, 11, 12, 13, 14, 15, 16, 18, 59, 69, 80, 88]
noncomputable def c_l15_RollOn : Code := Try.f3.body.getD .skip
noncomputable def L_l15_RollOn_0 (_E : FnA) (_n _n0 : Nat) (s : S) : Option (Ex × S) :=
  (pv s.bx (lenA Try.prog 24 (get s.env 1))).bind fun r59 =>
  (pv r59.2 (binA Try.prog .lss 3 (get s.env 16) r59.1)).bind fun r60 =>
  condA r60.1 ((pv r60.2 (indexAddrA Try.prog 24 (get (prune kp_l15_RollOn s.env) 1) (get (prune kp_l15_RollOn s.env) 16))).bind fun r61 =>
  (pv r61.2 (fieldAddrA Try.prog 34 r61.1 4)).bind fun r62 =>
  (pv r62.2 (loadA Try.prog 3 r62.2 r62.1)).bind fun r63 =>
  (pv r63.2 (binA Try.prog .eql 3 r63.1 (.v (Go.Value.int Go.IntKind.i64 0)))).bind fun r64 =>
  condA r64.1 (some (.ret, ⟨((6, (.v (Go.Value.bool true))) :: (88, r64.1) :: (80, r60.1) :: (prune kp_l15_RollOn (prune kp_l15_RollOn (prune kp_l15_RollOn s.env)))), r64.2⟩)) ((pv r64.2 (binA Try.prog .add 3 (get (prune kp_l15_RollOn (prune kp_l15_RollOn s.env)) 16) (.v (Go.Value.int Go.IntKind.i64 1)))).bind fun r65 =>
  some (.normal, ⟨((16, r65.1) :: (88, r64.1) :: (80, r60.1) :: (prune kp_l15_RollOn (prune kp_l15_RollOn (prune kp_l15_RollOn s.env)))), r65.2⟩))) (some (.exit 0, ⟨((80, r60.1) :: (prune kp_l15_RollOn s.env)), r60.2⟩))
noncomputable def B_l15_RollOn_0 (_E : FnA) (_n _n0 : Nat) (x16 x69 x59 x15 x14 x13 x12 x11 x10 x9 x8 x7 x1 x18 x6 x3 x0 x1_1 x2 : AV) (y : Bx) : Option (Ex × S) :=
  (pv y (lenA Try.prog 24 x1)).bind fun r52 =>
  (pv r52.2 (binA Try.prog .lss 3 x16 r52.1)).bind fun r53 =>
  condA r53.1 ((pv r53.2 (indexAddrA Try.prog 24 x1 x16)).bind fun r54 =>
  (pv r54.2 (fieldAddrA Try.prog 34 r54.1 4)).bind fun r55 =>
  (pv r55.2 (loadA Try.prog 3 r55.2 r55.1)).bind fun r56 =>
  (pv r56.2 (binA Try.prog .eql 3 r56.1 (.v (Go.Value.int Go.IntKind.i64 0)))).bind fun r57 =>
  condA r57.1 (some (.ret, ⟨[(6, (.v (Go.Value.bool true))), (88, r57.1), (80, r53.1), (16, x16), (69, x69), (59, x59), (15, x15), (14, x14), (13, x13), (12, x12), (11, x11), (10, x10), (9, x9), (8, x8), (7, x7), (1, x1), (18, x18), (6, x6), (3, x3), (0, x0), (1, x1_1), (2, x2)], r57.2⟩)) ((pv r57.2 (binA Try.prog .add 3 x16 (.v (Go.Value.int Go.IntKind.i64 1)))).bind fun r58 =>
  some (.normal, ⟨[(16, r58.1), (88, r57.1), (80, r53.1), (16, x16), (69, x69), (59, x59), (15, x15), (14, x14), (13, x13), (12, x12), (11, x11), (10, x10), (9, x9), (8, x8), (7, x7), (1, x1), (18, x18), (6, x6), (3, x3), (0, x0), (1, x1_1), (2, x2)], r58.2⟩))) (some (.exit 0, ⟨[(80, r53.1), (16, x16), (69, x69), (59, x59), (15, x15), (14, x14), (13, x13), (12, x12), (11, x11), (10, x10), (9, x9), (8, x8), (7, x7), (1, x1), (18, x18), (6, x6), (3, x3), (0, x0), (1, x1_1), (2, x2)], r53.2⟩))
theorem L_l15_RollOn_0_lit {E : FnA} {n n0 : Nat} {x16 x69 x59 x15 x14 x13 x12 x11 x10 x9 x8 x7 x1 x18 x6 x3 x0 x1_1 x2 : AV} {y : Bx} {Q : Ex → S → Prop} (h : Ends (B_l15_RollOn_0 E n n0 x16 x69 x59 x15 x14 x13 x12 x11 x10 x9 x8 x7 x1 x18 x6 x3 x0 x1_1 x2 y) Q) : Ends (L_l15_RollOn_0 E n n0 ⟨[(16, x16), (69, x69), (59, x59), (15, x15), (14, x14), (13, x13), (12, x12), (11, x11), (10, x10), (9, x9), (8, x8), (7, x7), (1, x1), (18, x18), (6, x6), (3, x3), (0, x0), (1, x1_1), (2, x2)], y⟩) Q := by
  rw [show L_l15_RollOn_0 E n n0 ⟨[(16, x16), (69, x69), (59, x59), (15, x15), (14, x14), (13, x13), (12, x12), (11, x11), (10, x10), (9, x9), (8, x8), (7, x7), (1, x1), (18, x18), (6, x6), (3, x3), (0, x0), (1, x1_1), (2, x2)], y⟩ = B_l15_RollOn_0 E n n0 x16 x69 x59 x15 x14 x13 x12 x11 x10 x9 x8 x7 x1 x18 x6 x3 x0 x1_1 x2 y by kernel_rfl]
  exact h
noncomputable def K_l15_RollOn_0 (E : FnA) (_n _n0 : Nat) (t : S) : Option (Ex × S) :=
  (pv t.bx (loadA Try.prog 23 t.bx (get t.env 8))).bind fun r69 =>
  (pv r69.2 (loadA Try.prog 23 r69.2 (get t.env 12))).bind fun r70 =>
  (callA E md0 r70.2 11 [r69.1, r70.1]).bind fun r71 =>
  some (.ret, ⟨((6, r71.1) :: (prune kp_l15_RollOn t.env)), r71.2⟩)
noncomputable def X_l15_RollOn_0 (E : FnA) (_n _n0 : Nat) (i : Nat) (t : S) : Option (Ex × S) :=
  if i = 0 then (pv t.bx (loadA Try.prog 23 t.bx (get t.env 8))).bind fun r66 =>
  (pv r66.2 (loadA Try.prog 23 r66.2 (get t.env 12))).bind fun r67 =>
  (callA E md0 r67.2 11 [r66.1, r67.1]).bind fun r68 =>
  some (.ret, ⟨((6, r68.1) :: (prune kp_l15_RollOn t.env)), r68.2⟩) else some (.exit i, ⟨t.env, t.bx⟩)
noncomputable def X_l15_RollOn_0_0 (E : FnA) (_n _n0 : Nat) (x80 x16 x69 x59 x15 x14 x13 x12 x11 x10 x9 x8 x7 x1 x18 x6 x3 x0 x1_1 x2 : AV) (y : Bx) : Option (Ex × S) :=
  (pv y (loadA Try.prog 23 y x8)).bind fun r72 =>
  (pv r72.2 (loadA Try.prog 23 r72.2 x12)).bind fun r73 =>
  (callA E md0 r73.2 11 [r72.1, r73.1]).bind fun r74 =>
  some (.ret, ⟨[(6, r74.1), (80, x80), (16, x16), (69, x69), (59, x59), (15, x15), (14, x14), (13, x13), (12, x12), (11, x11), (10, x10), (9, x9), (8, x8), (7, x7), (1, x1), (18, x18), (6, x6), (3, x3), (0, x0), (1, x1_1), (2, x2)], r74.2⟩)
theorem X_l15_RollOn_0_0_lit {E : FnA} {n n0 : Nat} {x80 x16 x69 x59 x15 x14 x13 x12 x11 x10 x9 x8 x7 x1 x18 x6 x3 x0 x1_1 x2 : AV} {y : Bx} {Q : Ex → S → Prop} (h : Ends (X_l15_RollOn_0_0 E n n0 x80 x16 x69 x59 x15 x14 x13 x12 x11 x10 x9 x8 x7 x1 x18 x6 x3 x0 x1_1 x2 y) Q) : Ends (X_l15_RollOn_0 E n n0 0 ⟨[(80, x80), (16, x16), (69, x69), (59, x59), (15, x15), (14, x14), (13, x13), (12, x12), (11, x11), (10, x10), (9, x9), (8, x8), (7, x7), (1, x1), (18, x18), (6, x6), (3, x3), (0, x0), (1, x1_1), (2, x2)], y⟩) Q := by
  rw [show X_l15_RollOn_0 E n n0 0 ⟨[(80, x80), (16, x16), (69, x69), (59, x59), (15, x15), (14, x14), (13, x13), (12, x12), (11, x11), (10, x10), (9, x9), (8, x8), (7, x7), (1, x1), (18, x18), (6, x6), (3, x3), (0, x0), (1, x1_1), (2, x2)], y⟩ = X_l15_RollOn_0_0 E n n0 x80 x16 x69 x59 x15 x14 x13 x12 x11 x10 x9 x8 x7 x1 x18 x6 x3 x0 x1_1 x2 y by kernel_rfl]
  exact h
noncomputable def F_l15_RollOn (E : FnA) (n n0 : Nat) (a0 a1 a2 : AV) (bx : Bx) : Option (Ex × S) :=
  (boxA bx a0).bind fun r1 =>
  (callA E md0 r1.2 7 []).bind fun r2 =>
  (pv r2.2 (unA .not r2.1)).bind fun r3 =>
  condA r3.1 (some (.ret, ⟨[(6, (.v (Go.Value.bool false))), (18, r3.1), (6, (.v (Go.Value.bool false))), (3, r1.1), (0, a0), (1, a1), (2, a2)], r3.2⟩)) ((callA E md0 r3.2 8 [a1]).bind fun r4 =>
  (pv r4.2 (lenA Try.prog 24 r4.1)).bind fun r5 =>
  (pv r5.2 (binA Try.prog .add 3 r5.1 (.v (Go.Value.int Go.IntKind.i64 1)))).bind fun r6 =>
  (callA E md0 r6.2 9 [a2, r6.1]).bind fun r7 =>
  (pv r7.2 (loadA Try.prog 23 r7.2 r1.1)).bind fun r8 =>
  (callA E md0 r8.2 10 [r8.1, r4.1]).bind fun r9 =>
  (pv r9.2 (tupA r9.1 0)).bind fun r10 =>
  (pv r10.2 (tupA r9.1 1)).bind fun r11 =>
  (allocA Try.prog r11.2 23).bind fun r12 =>
  (stA Try.prog 23 r12.2 r12.1 r10.1).bind fun r13 =>
  (allocA Try.prog r13.2 23).bind fun r14 =>
  (pv r14.2 (loadA Try.prog 23 r14.2 r1.1)).bind fun r15 =>
  (pv r15.2 (sliceA Try.prog r15.2 24 r4.1 none (some r7.1) none)).bind fun r16 =>
  (callA E md0 r16.2 10 [r15.1, r16.1]).bind fun r17 =>
  (pv r17.2 (tupA r17.1 0)).bind fun r18 =>
  (pv r18.2 (tupA r17.1 1)).bind fun r19 =>
  (stA Try.prog 23 r19.2 r14.1 r18.1).bind fun r20 =>
  (allocA Try.prog r20.2 23).bind fun r21 =>
  (pv r21.2 (loadA Try.prog 23 r21.2 r14.1)).bind fun r22 =>
  (pv r22.2 (sliceA Try.prog r22.2 24 r4.1 (some r7.1) none none)).bind fun r23 =>
  (callA E md0 r23.2 10 [r22.1, r23.1]).bind fun r24 =>
  (pv r24.2 (tupA r24.1 0)).bind fun r25 =>
  (pv r25.2 (tupA r24.1 1)).bind fun r26 =>
  (stA Try.prog 23 r26.2 r21.1 r25.1).bind fun r27 =>
  (pv r27.2 (loadA Try.prog 23 r27.2 r1.1)).bind fun r28 =>
  (callA E md0 r28.2 10 [r28.1, (.v (Go.Value.slice none 0 0))]).bind fun r29 =>
  (pv r29.2 (tupA r29.1 0)).bind fun r30 =>
  (pv r30.2 (tupA r29.1 1)).bind fun r31 =>
  (allocA Try.prog r31.2 23).bind fun r32 =>
  (stA Try.prog 23 r32.2 r32.1 r30.1).bind fun r33 =>
  (pv r33.2 (loadA Try.prog 23 r33.2 r32.1)).bind fun r34 =>
  (pv r34.2 (loadA Try.prog 23 r34.2 r1.1)).bind fun r35 =>
  (pv r35.2 (binA Try.prog .neq 23 r34.1 r35.1)).bind fun r36 =>
  (gsel false r36.2 (some (r31.1, r36.2)) r36.1).bind fun r37 =>
  (gsel false r37.2 (pv r37.2 (binA Try.prog .neq 28 r37.1 (.v (Go.Value.int Go.IntKind.i64 0)))) r36.1).bind fun r38 =>
  (pv r38.2 (pickA r36.1 (.v (Go.Value.bool true)) r38.1)).bind fun r39 =>
  condA r39.1 (some (.ret, ⟨[(6, (.v (Go.Value.bool false))), (59, r39.1), (15, r31.1), (14, r32.1), (13, r26.1), (12, r21.1), (11, r19.1), (10, r14.1), (9, r11.1), (8, r12.1), (7, r7.1), (1, r4.1), (18, r3.1), (6, (.v (Go.Value.bool false))), (3, r1.1), (0, a0), (1, a1), (2, a2)], r39.2⟩)) ((pv r39.2 (binA Try.prog .neq 28 r11.1 (.v (Go.Value.int Go.IntKind.i64 0)))).bind fun r40 =>
  (gsel false r40.2 (some (r19.1, r40.2)) r40.1).bind fun r41 =>
  (gsel false r41.2 (pv r41.2 (binA Try.prog .neq 28 r41.1 (.v (Go.Value.int Go.IntKind.i64 0)))) r40.1).bind fun r42 =>
  (pv r42.2 (pickA r40.1 (.v (Go.Value.bool true)) r42.1)).bind fun r43 =>
  (gsel false r43.2 (some (r26.1, r43.2)) r43.1).bind fun r44 =>
  (gsel false r44.2 (pv r44.2 (binA Try.prog .neq 28 r44.1 (.v (Go.Value.int Go.IntKind.i64 0)))) r43.1).bind fun r45 =>
  (pv r45.2 (pickA r43.1 (.v (Go.Value.bool true)) r45.1)).bind fun r46 =>
  condA r46.1 ((pv r46.2 (binA Try.prog .neq 28 r11.1 (.v (Go.Value.int Go.IntKind.i64 0)))).bind fun r47 =>
  (gsel true r47.2 (pv r47.2 (loadA Try.prog 23 r47.2 r12.1)) r47.1).bind fun r48 =>
  (gsel true r48.2 (pv r48.2 (loadA Try.prog 23 r48.2 r1.1)) r47.1).bind fun r49 =>
  (gsel true r49.2 (pv r49.2 (binA Try.prog .eql 23 r48.1 r49.1)) r47.1).bind fun r50 =>
  (pv r50.2 (pickA r47.1 r50.1 (.v (Go.Value.bool false)))).bind fun r51 =>
  some (.ret, ⟨[(6, r51.1), (69, r46.1), (59, r39.1), (15, r31.1), (14, r32.1), (13, r26.1), (12, r21.1), (11, r19.1), (10, r14.1), (9, r11.1), (8, r12.1), (7, r7.1), (1, r4.1), (18, r3.1), (6, (.v (Go.Value.bool false))), (3, r1.1), (0, a0), (1, a1), (2, a2)], r51.2⟩)) (exitA (iter (head ⟨[(16, (.v (Go.Value.int Go.IntKind.i64 0))), (69, r46.1), (59, r39.1), (15, r31.1), (14, r32.1), (13, r26.1), (12, r21.1), (11, r19.1), (10, r14.1), (9, r11.1), (8, r12.1), (7, r7.1), (1, r4.1), (18, r3.1), (6, (.v (Go.Value.bool false))), (3, r1.1), (0, a0), (1, a1), (2, a2)], r46.2⟩) (L_l15_RollOn_0 E n n0) n ⟨[(16, (.v (Go.Value.int Go.IntKind.i64 0))), (69, r46.1), (59, r39.1), (15, r31.1), (14, r32.1), (13, r26.1), (12, r21.1), (11, r19.1), (10, r14.1), (9, r11.1), (8, r12.1), (7, r7.1), (1, r4.1), (18, r3.1), (6, (.v (Go.Value.bool false))), (3, r1.1), (0, a0), (1, a1), (2, a2)], r46.2⟩) (K_l15_RollOn_0 E n n0) (X_l15_RollOn_0 E n n0))))
theorem c_l15_RollOn_eq : Try.f3.body = some c_l15_RollOn := by kernel_rfl
theorem d_l15_RollOn : drawsOk Try.prog md0 c_l15_RollOn = true := by kernel_rfl
theorem F_l15_RollOn_eq (E : FnA) (n n0 : Nat) (a0 a1 a2 : AV) (bx : Bx) : evK Try.prog md0 E 92 kp_l15_RollOn n n0 c_l15_RollOn ⟨[(0, a0), (1, a1), (2, a2)], bx⟩ (fun s => some (.normal, s)) (fun i s => some (.exit i, s)) = F_l15_RollOn E n n0 a0 a1 a2 bx := by kernel_rfl

theorem E_l15_RollOn (n : Nat) (a0 a1 a2 : AV) (bx : Bx) : evFn cx0 ext0 (n + 1) 3 [a0, a1, a2] bx = fin Try.prog [.tmp 6] (F_l15_RollOn (evFn cx0 ext0 n) n bx.length a0 a1 a2 bx) := by
  rw [evFn_eq2 (cx := cx0) (c := c_l15_RollOn) rfl Try.func3 c_l15_RollOn_eq (of_decide_eq_true (by kernel_rfl)) d_l15_RollOn (of_decide_eq_true (by kernel_rfl))]
  exact congrArg (fin Try.prog [.tmp 6]) (F_l15_RollOn_eq (evFn cx0 ext0 n) n bx.length a0 a1 a2 bx)

/-- scupper/scupperlaw15.RollTurns -/
def kp_l15_RollTurns : Option (List Nat) := some [0, 1, 2, 3, 5, 6, 7, 8, 9, 11, 12]
noncomputable def c_l15_RollTurns : Code := Try.f4.body.getD .skip
noncomputable def F_l15_RollTurns (E : FnA) (_n _n0 : Nat) (a0 a1 a2 : AV) (bx : Bx) : Option (Ex × S) :=
  (boxA bx a0).bind fun r1 =>
  (boxA r1.2 a2).bind fun r2 =>
  (pv r2.2 (binA Try.prog .rem 5 a1 (.v (Go.Value.int Go.IntKind.u8 6)))).bind fun r3 =>
  (convA Try.prog r3.2 5 3 r3.1).bind fun r4 =>
  (pv r4.2 (binA Try.prog .add 3 (.v (Go.Value.int Go.IntKind.i64 1)) r4.1)).bind fun r5 =>
  (allocA Try.prog r5.2 23).bind fun r6 =>
  (pv r6.2 (loadA Try.prog 23 r6.2 r1.1)).bind fun r7 =>
  (pv r7.2 (sliceA Try.prog r7.2 38 r2.1 none none none)).bind fun r8 =>
  (pv r8.2 (buildA Try.prog 34 [(4, r5.1), (3, r8.1)])).bind fun r9 =>
  (guardB (apartV (AV.bp (List.length r9.2) 0) r1.1 && true)).bind fun _ =>
  (buildSliceA Try.prog r9.2 24 1 [(0, r9.1)]).bind fun r10 =>
  (callA E md0 r10.2 10 [r7.1, r10.1]).bind fun r11 =>
  (pv r11.2 (tupA r11.1 0)).bind fun r12 =>
  (pv r12.2 (tupA r11.1 1)).bind fun r13 =>
  (stA Try.prog 23 r13.2 r6.1 r12.1).bind fun r14 =>
  (pv r14.2 (loadA Try.prog 23 r14.2 r6.1)).bind fun r15 =>
  (callA E md0 r15.2 12 [r5.1, r15.1]).bind fun r16 =>
  (pv r16.2 (tupA r16.1 0)).bind fun r17 =>
  (pv r17.2 (tupA r16.1 1)).bind fun r18 =>
  (pv r18.2 (tupA r16.1 2)).bind fun r19 =>
  (allocA Try.prog r19.2 38).bind fun r20 =>
  (stA Try.prog 38 r20.2 r20.1 r17.1).bind fun r21 =>
  (pv r21.2 (loadA Try.prog 23 r21.2 r1.1)).bind fun r22 =>
  (callA E md0 r22.2 13 [r22.1]).bind fun r23 =>
  (pv r23.2 (loadA Try.prog 23 r23.2 r1.1)).bind fun r24 =>
  (callA E md0 r24.2 14 [r24.1]).bind fun r25 =>
  (pv r25.2 (binA Try.prog .eql 39 r23.1 r25.1)).bind fun r26 =>
  (gsel true r26.2 (pv r26.2 (loadA Try.prog 23 r26.2 r1.1)) r26.1).bind fun r27 =>
  (gsel true r27.2 (some (r5.1, r27.2)) r26.1).bind fun r28 =>
  (gsel true r28.2 (callA E md0 r28.2 15 [r27.1, r28.1]) r26.1).bind fun r29 =>
  (gsel true r29.2 (pv r29.2 (loadA Try.prog 23 r29.2 r1.1)) r26.1).bind fun r30 =>
  (gsel true r30.2 (some (r5.1, r30.2)) r26.1).bind fun r31 =>
  (gsel true r31.2 (callA E md0 r31.2 16 [r30.1, r31.1]) r26.1).bind fun r32 =>
  (gsel true r32.2 (pv r32.2 (binA Try.prog .eql 38 r29.1 r32.1)) r26.1).bind fun r33 =>
  (pv r33.2 (pickA r26.1 r33.1 (.v (Go.Value.bool false)))).bind fun r34 =>
  (gsel true r34.2 (some (r13.1, r34.2)) r34.1).bind fun r35 =>
  (gsel true r35.2 (pv r35.2 (binA Try.prog .eql 28 r35.1 (.v (Go.Value.int Go.IntKind.i64 0)))) r34.1).bind fun r36 =>
  (pv r36.2 (pickA r34.1 r36.1 (.v (Go.Value.bool false)))).bind fun r37 =>
  (gsel true r37.2 (some (r19.1, r37.2)) r37.1).bind fun r38 =>
  (gsel true r38.2 (pv r38.2 (binA Try.prog .eql 28 r38.1 (.v (Go.Value.int Go.IntKind.i64 0)))) r37.1).bind fun r39 =>
  (pv r39.2 (pickA r37.1 r39.1 (.v (Go.Value.bool false)))).bind fun r40 =>
  (gsel true r40.2 (some (r18.1, r40.2)) r40.1).bind fun r41 =>
  (gsel true r41.2 (pv r41.2 (loadA Try.prog 23 r41.2 r1.1)) r40.1).bind fun r42 =>
  (gsel true r42.2 (callA E md0 r42.2 14 [r42.1]) r40.1).bind fun r43 =>
  (gsel true r43.2 (pv r43.2 (binA Try.prog .eql 39 r41.1 r43.1)) r40.1).bind fun r44 =>
  (pv r44.2 (pickA r40.1 r44.1 (.v (Go.Value.bool false)))).bind fun r45 =>
  (gsel true r45.2 (pv r45.2 (loadA Try.prog 23 r45.2 r6.1)) r45.1).bind fun r46 =>
  (gsel true r46.2 (some (r5.1, r46.2)) r45.1).bind fun r47 =>
  (gsel true r47.2 (callA E md0 r47.2 15 [r46.1, r47.1]) r45.1).bind fun r48 =>
  (gsel true r48.2 (pv r48.2 (loadA Try.prog 38 r48.2 r2.1)) r45.1).bind fun r49 =>
  (gsel true r49.2 (pv r49.2 (binA Try.prog .eql 38 r48.1 r49.1)) r45.1).bind fun r50 =>
  (pv r50.2 (pickA r45.1 r50.1 (.v (Go.Value.bool false)))).bind fun r51 =>
  (gsel true r51.2 (callA E md0 r51.2 7 []) r51.1).bind fun r52 =>
  (pv r52.2 (pickA r51.1 r52.1 (.v (Go.Value.bool false)))).bind fun r53 =>
  some (.ret, ⟨[(6, r53.1), (12, r19.1), (11, r18.1), (9, r13.1), (8, r6.1), (7, r5.1), (6, (.v (Go.Value.bool false))), (5, r2.1), (3, r1.1), (0, a0), (1, a1), (2, a2)], r53.2⟩)
theorem c_l15_RollTurns_eq : Try.f4.body = some c_l15_RollTurns := by kernel_rfl
theorem d_l15_RollTurns : drawsOk Try.prog md0 c_l15_RollTurns = true := by kernel_rfl
theorem F_l15_RollTurns_eq (E : FnA) (n n0 : Nat) (a0 a1 a2 : AV) (bx : Bx) : evK Try.prog md0 E 71 kp_l15_RollTurns n n0 c_l15_RollTurns ⟨[(0, a0), (1, a1), (2, a2)], bx⟩ (fun s => some (.normal, s)) (fun i s => some (.exit i, s)) = F_l15_RollTurns E n n0 a0 a1 a2 bx := by kernel_rfl

theorem E_l15_RollTurns (n : Nat) (a0 a1 a2 : AV) (bx : Bx) : evFn cx0 ext0 (n + 1) 4 [a0, a1, a2] bx = fin Try.prog [.tmp 6] (F_l15_RollTurns (evFn cx0 ext0 n) n bx.length a0 a1 a2 bx) := by
  rw [evFn_eq2 (cx := cx0) (c := c_l15_RollTurns) rfl Try.func4 c_l15_RollTurns_eq (of_decide_eq_true (by kernel_rfl)) d_l15_RollTurns (of_decide_eq_true (by kernel_rfl))]
  exact congrArg (fin Try.prog [.tmp 6]) (F_l15_RollTurns_eq (evFn cx0 ext0 n) n bx.length a0 a1 a2 bx)

/-- scupper/scupperlaw15.RollRolls -/
def kp_l15_RollRolls : Option (List Nat) := some [0, 1, 2, 3, 6, 7, 8, 9, 10, 11, 12, 13, 14, 15, 16, 17, 81, 85, 97]
noncomputable def c_l15_RollRolls : Code := Try.f5.body.getD .skip
noncomputable def L_l15_RollRolls_0 (E : FnA) (_n _n0 : Nat) (s : S) : Option (Ex × S) :=
  (pv s.bx (lenA Try.prog 24 (get s.env 15))).bind fun r64 =>
  (pv r64.2 (binA Try.prog .lss 3 (get s.env 17) r64.1)).bind fun r65 =>
  condA r65.1 ((pv r65.2 (indexAddrA Try.prog 24 (get (prune kp_l15_RollRolls s.env) 15) (get (prune kp_l15_RollRolls s.env) 17))).bind fun r66 =>
  (pv r66.2 (loadA Try.prog 34 r66.2 r66.1)).bind fun r67 =>
  (pv r67.2 (indexAddrA Try.prog 24 (get (prune kp_l15_RollRolls s.env) 16) (get (prune kp_l15_RollRolls s.env) 17))).bind fun r68 =>
  (pv r68.2 (loadA Try.prog 34 r68.2 r68.1)).bind fun r69 =>
  (callA E md0 r69.2 23 [r67.1, r69.1]).bind fun r70 =>
  (pv r70.2 (binA Try.prog .eql 3 (.v (Go.Value.int Go.IntKind.i64 0)) r70.1)).bind fun r71 =>
  condA r71.1 (some (.ret, ⟨((6, (.v (Go.Value.bool false))) :: (97, r71.1) :: (85, r65.1) :: (prune kp_l15_RollRolls (prune kp_l15_RollRolls (prune kp_l15_RollRolls s.env)))), r71.2⟩)) ((pv r71.2 (binA Try.prog .add 3 (get (prune kp_l15_RollRolls (prune kp_l15_RollRolls s.env)) 17) (.v (Go.Value.int Go.IntKind.i64 1)))).bind fun r72 =>
  some (.normal, ⟨((17, r72.1) :: (97, r71.1) :: (85, r65.1) :: (prune kp_l15_RollRolls (prune kp_l15_RollRolls (prune kp_l15_RollRolls s.env)))), r72.2⟩))) (some (.exit 0, ⟨((85, r65.1) :: (prune kp_l15_RollRolls s.env)), r65.2⟩))
noncomputable def B_l15_RollRolls_0 (E : FnA) (_n _n0 : Nat) (x17 x81 x16 x15 x14 x13 x12 x11 x10 x9 x8 x7 x1 x6 x3 x0 x1_1 x2 : AV) (y : Bx) : Option (Ex × S) :=
  (pv y (lenA Try.prog 24 x15)).bind fun r55 =>
  (pv r55.2 (binA Try.prog .lss 3 x17 r55.1)).bind fun r56 =>
  condA r56.1 ((pv r56.2 (indexAddrA Try.prog 24 x15 x17)).bind fun r57 =>
  (pv r57.2 (loadA Try.prog 34 r57.2 r57.1)).bind fun r58 =>
  (pv r58.2 (indexAddrA Try.prog 24 x16 x17)).bind fun r59 =>
  (pv r59.2 (loadA Try.prog 34 r59.2 r59.1)).bind fun r60 =>
  (callA E md0 r60.2 23 [r58.1, r60.1]).bind fun r61 =>
  (pv r61.2 (binA Try.prog .eql 3 (.v (Go.Value.int Go.IntKind.i64 0)) r61.1)).bind fun r62 =>
  condA r62.1 (some (.ret, ⟨[(6, (.v (Go.Value.bool false))), (97, r62.1), (85, r56.1), (17, x17), (81, x81), (16, x16), (15, x15), (14, x14), (13, x13), (12, x12), (11, x11), (10, x10), (9, x9), (8, x8), (7, x7), (1, x1), (6, x6), (3, x3), (0, x0), (1, x1_1), (2, x2)], r62.2⟩)) ((pv r62.2 (binA Try.prog .add 3 x17 (.v (Go.Value.int Go.IntKind.i64 1)))).bind fun r63 =>
  some (.normal, ⟨[(17, r63.1), (97, r62.1), (85, r56.1), (17, x17), (81, x81), (16, x16), (15, x15), (14, x14), (13, x13), (12, x12), (11, x11), (10, x10), (9, x9), (8, x8), (7, x7), (1, x1), (6, x6), (3, x3), (0, x0), (1, x1_1), (2, x2)], r63.2⟩))) (some (.exit 0, ⟨[(85, r56.1), (17, x17), (81, x81), (16, x16), (15, x15), (14, x14), (13, x13), (12, x12), (11, x11), (10, x10), (9, x9), (8, x8), (7, x7), (1, x1), (6, x6), (3, x3), (0, x0), (1, x1_1), (2, x2)], r56.2⟩))
theorem L_l15_RollRolls_0_lit {E : FnA} {n n0 : Nat} {x17 x81 x16 x15 x14 x13 x12 x11 x10 x9 x8 x7 x1 x6 x3 x0 x1_1 x2 : AV} {y : Bx} {Q : Ex → S → Prop} (h : Ends (B_l15_RollRolls_0 E n n0 x17 x81 x16 x15 x14 x13 x12 x11 x10 x9 x8 x7 x1 x6 x3 x0 x1_1 x2 y) Q) : Ends (L_l15_RollRolls_0 E n n0 ⟨[(17, x17), (81, x81), (16, x16), (15, x15), (14, x14), (13, x13), (12, x12), (11, x11), (10, x10), (9, x9), (8, x8), (7, x7), (1, x1), (6, x6), (3, x3), (0, x0), (1, x1_1), (2, x2)], y⟩) Q := by
  rw [show L_l15_RollRolls_0 E n n0 ⟨[(17, x17), (81, x81), (16, x16), (15, x15), (14, x14), (13, x13), (12, x12), (11, x11), (10, x10), (9, x9), (8, x8), (7, x7), (1, x1), (6, x6), (3, x3), (0, x0), (1, x1_1), (2, x2)], y⟩ = B_l15_RollRolls_0 E n n0 x17 x81 x16 x15 x14 x13 x12 x11 x10 x9 x8 x7 x1 x6 x3 x0 x1_1 x2 y by kernel_rfl]
  exact h
noncomputable def K_l15_RollRolls_0 (E : FnA) (_n _n0 : Nat) (t : S) : Option (Ex × S) :=
  (callA E md0 t.bx 7 []).bind fun r74 =>
  some (.ret, ⟨((6, r74.1) :: (prune kp_l15_RollRolls t.env)), r74.2⟩)
noncomputable def X_l15_RollRolls_0 (E : FnA) (_n _n0 : Nat) (i : Nat) (t : S) : Option (Ex × S) :=
  if i = 0 then (callA E md0 t.bx 7 []).bind fun r73 =>
  some (.ret, ⟨((6, r73.1) :: (prune kp_l15_RollRolls t.env)), r73.2⟩) else some (.exit i, ⟨t.env, t.bx⟩)
noncomputable def X_l15_RollRolls_0_0 (E : FnA) (_n _n0 : Nat) (x85 x17 x81 x16 x15 x14 x13 x12 x11 x10 x9 x8 x7 x1 x6 x3 x0 x1_1 x2 : AV) (y : Bx) : Option (Ex × S) :=
  (callA E md0 y 7 []).bind fun r75 =>
  some (.ret, ⟨[(6, r75.1), (85, x85), (17, x17), (81, x81), (16, x16), (15, x15), (14, x14), (13, x13), (12, x12), (11, x11), (10, x10), (9, x9), (8, x8), (7, x7), (1, x1), (6, x6), (3, x3), (0, x0), (1, x1_1), (2, x2)], r75.2⟩)
theorem X_l15_RollRolls_0_0_lit {E : FnA} {n n0 : Nat} {x85 x17 x81 x16 x15 x14 x13 x12 x11 x10 x9 x8 x7 x1 x6 x3 x0 x1_1 x2 : AV} {y : Bx} {Q : Ex → S → Prop} (h : Ends (X_l15_RollRolls_0_0 E n n0 x85 x17 x81 x16 x15 x14 x13 x12 x11 x10 x9 x8 x7 x1 x6 x3 x0 x1_1 x2 y) Q) : Ends (X_l15_RollRolls_0 E n n0 0 ⟨[(85, x85), (17, x17), (81, x81), (16, x16), (15, x15), (14, x14), (13, x13), (12, x12), (11, x11), (10, x10), (9, x9), (8, x8), (7, x7), (1, x1), (6, x6), (3, x3), (0, x0), (1, x1_1), (2, x2)], y⟩) Q := by
  rw [show X_l15_RollRolls_0 E n n0 0 ⟨[(85, x85), (17, x17), (81, x81), (16, x16), (15, x15), (14, x14), (13, x13), (12, x12), (11, x11), (10, x10), (9, x9), (8, x8), (7, x7), (1, x1), (6, x6), (3, x3), (0, x0), (1, x1_1), (2, x2)], y⟩ = X_l15_RollRolls_0_0 E n n0 x85 x17 x81 x16 x15 x14 x13 x12 x11 x10 x9 x8 x7 x1 x6 x3 x0 x1_1 x2 y by kernel_rfl]
  exact h
noncomputable def F_l15_RollRolls (E : FnA) (n n0 : Nat) (a0 a1 a2 : AV) (bx : Bx) : Option (Ex × S) :=
  (boxA bx a0).bind fun r1 =>
  (callA E md0 r1.2 8 [a1]).bind fun r2 =>
  (allocA Try.prog r2.2 23).bind fun r3 =>
  (pv r3.2 (loadA Try.prog 23 r3.2 r1.1)).bind fun r4 =>
  (callA E md0 r4.2 8 [r2.1]).bind fun r5 =>
  (callA E md0 r5.2 10 [r4.1, r5.1]).bind fun r6 =>
  (pv r6.2 (tupA r6.1 0)).bind fun r7 =>
  (pv r7.2 (tupA r6.1 1)).bind fun r8 =>
  (stA Try.prog 23 r8.2 r3.1 r7.1).bind fun r9 =>
  (pv r9.2 (loadA Try.prog 23 r9.2 r1.1)).bind fun r10 =>
  (callA E md0 r10.2 17 [r10.1, r2.1]).bind fun r11 =>
  (pv r11.2 (tupA r11.1 0)).bind fun r12 =>
  (pv r12.2 (tupA r11.1 1)).bind fun r13 =>
  (allocA Try.prog r13.2 23).bind fun r14 =>
  (stA Try.prog 23 r14.2 r14.1 r12.1).bind fun r15 =>
  (allocA Try.prog r15.2 23).bind fun r16 =>
  (pv r16.2 (loadA Try.prog 23 r16.2 r1.1)).bind fun r17 =>
  (callA E md0 r17.2 8 [r2.1]).bind fun r18 =>
  (callA E md0 r18.2 19 [a2]).bind fun r19 =>
  (callA E md0 r19.2 18 [r17.1, r18.1, r19.1]).bind fun r20 =>
  (pv r20.2 (tupA r20.1 0)).bind fun r21 =>
  (pv r21.2 (tupA r20.1 1)).bind fun r22 =>
  (stA Try.prog 23 r22.2 r16.1 r21.1).bind fun r23 =>
  (pv r23.2 (loadA Try.prog 23 r23.2 r1.1)).bind fun r24 =>
  (callA E md0 r24.2 20 [r24.1, r2.1, a2]).bind fun r25 =>
  (pv r25.2 (tupA r25.1 0)).bind fun r26 =>
  (pv r26.2 (tupA r25.1 1)).bind fun r27 =>
  (allocA Try.prog r27.2 23).bind fun r28 =>
  (stA Try.prog 23 r28.2 r28.1 r26.1).bind fun r29 =>
  (callA E md0 r29.2 8 [r2.1]).bind fun r30 =>
  (callA E md0 r30.2 19 [a2]).bind fun r31 =>
  (callA E md0 r31.2 21 [r30.1, r31.1]).bind fun r32 =>
  (callA E md0 r32.2 22 [r2.1, a2]).bind fun r33 =>
  (pv r33.2 (loadA Try.prog 23 r33.2 r3.1)).bind fun r34 =>
  (pv r34.2 (loadA Try.prog 23 r34.2 r14.1)).bind fun r35 =>
  (pv r35.2 (binA Try.prog .neq 23 r34.1 r35.1)).bind fun r36 =>
  (gsel false r36.2 (some (r8.1, r36.2)) r36.1).bind fun r37 =>
  (gsel false r37.2 (some (r13.1, r37.2)) r36.1).bind fun r38 =>
  (gsel false r38.2 (pv r38.2 (binA Try.prog .neq 28 r37.1 r38.1)) r36.1).bind fun r39 =>
  (pv r39.2 (pickA r36.1 (.v (Go.Value.bool true)) r39.1)).bind fun r40 =>
  (gsel false r40.2 (pv r40.2 (loadA Try.prog 23 r40.2 r16.1)) r40.1).bind fun r41 =>
  (gsel false r41.2 (pv r41.2 (loadA Try.prog 23 r41.2 r28.1)) r40.1).bind fun r42 =>
  (gsel false r42.2 (pv r42.2 (binA Try.prog .neq 23 r41.1 r42.1)) r40.1).bind fun r43 =>
  (pv r43.2 (pickA r40.1 (.v (Go.Value.bool true)) r43.1)).bind fun r44 =>
  (gsel false r44.2 (some (r22.1, r44.2)) r44.1).bind fun r45 =>
  (gsel false r45.2 (some (r27.1, r45.2)) r44.1).bind fun r46 =>
  (gsel false r46.2 (pv r46.2 (binA Try.prog .neq 28 r45.1 r46.1)) r44.1).bind fun r47 =>
  (pv r47.2 (pickA r44.1 (.v (Go.Value.bool true)) r47.1)).bind fun r48 =>
  (gsel false r48.2 (some (r32.1, r48.2)) r48.1).bind fun r49 =>
  (gsel false r49.2 (pv r49.2 (lenA Try.prog 24 r49.1)) r48.1).bind fun r50 =>
  (gsel false r50.2 (some (r33.1, r50.2)) r48.1).bind fun r51 =>
  (gsel false r51.2 (pv r51.2 (lenA Try.prog 24 r51.1)) r48.1).bind fun r52 =>
  (gsel false r52.2 (pv r52.2 (binA Try.prog .neq 3 r50.1 r52.1)) r48.1).bind fun r53 =>
  (pv r53.2 (pickA r48.1 (.v (Go.Value.bool true)) r53.1)).bind fun r54 =>
  condA r54.1 (some (.ret, ⟨[(6, (.v (Go.Value.bool false))), (81, r54.1), (16, r33.1), (15, r32.1), (14, r27.1), (13, r28.1), (12, r22.1), (11, r16.1), (10, r13.1), (9, r14.1), (8, r8.1), (7, r3.1), (1, r2.1), (6, (.v (Go.Value.bool false))), (3, r1.1), (0, a0), (1, a1), (2, a2)], r54.2⟩)) (exitA (iter (head ⟨[(17, (.v (Go.Value.int Go.IntKind.i64 0))), (81, r54.1), (16, r33.1), (15, r32.1), (14, r27.1), (13, r28.1), (12, r22.1), (11, r16.1), (10, r13.1), (9, r14.1), (8, r8.1), (7, r3.1), (1, r2.1), (6, (.v (Go.Value.bool false))), (3, r1.1), (0, a0), (1, a1), (2, a2)], r54.2⟩) (L_l15_RollRolls_0 E n n0) n ⟨[(17, (.v (Go.Value.int Go.IntKind.i64 0))), (81, r54.1), (16, r33.1), (15, r32.1), (14, r27.1), (13, r28.1), (12, r22.1), (11, r16.1), (10, r13.1), (9, r14.1), (8, r8.1), (7, r3.1), (1, r2.1), (6, (.v (Go.Value.bool false))), (3, r1.1), (0, a0), (1, a1), (2, a2)], r54.2⟩) (K_l15_RollRolls_0 E n n0) (X_l15_RollRolls_0 E n n0))
theorem c_l15_RollRolls_eq : Try.f5.body = some c_l15_RollRolls := by kernel_rfl
theorem d_l15_RollRolls : drawsOk Try.prog md0 c_l15_RollRolls = true := by kernel_rfl
theorem F_l15_RollRolls_eq (E : FnA) (n n0 : Nat) (a0 a1 a2 : AV) (bx : Bx) : evK Try.prog md0 E 99 kp_l15_RollRolls n n0 c_l15_RollRolls ⟨[(0, a0), (1, a1), (2, a2)], bx⟩ (fun s => some (.normal, s)) (fun i s => some (.exit i, s)) = F_l15_RollRolls E n n0 a0 a1 a2 bx := by kernel_rfl

theorem E_l15_RollRolls (n : Nat) (a0 a1 a2 : AV) (bx : Bx) : evFn cx0 ext0 (n + 1) 5 [a0, a1, a2] bx = fin Try.prog [.tmp 6] (F_l15_RollRolls (evFn cx0 ext0 n) n bx.length a0 a1 a2 bx) := by
  rw [evFn_eq2 (cx := cx0) (c := c_l15_RollRolls) rfl Try.func5 c_l15_RollRolls_eq (of_decide_eq_true (by kernel_rfl)) d_l15_RollRolls (of_decide_eq_true (by kernel_rfl))]
  exact congrArg (fin Try.prog [.tmp 6]) (F_l15_RollRolls_eq (evFn cx0 ext0 n) n bx.length a0 a1 a2 bx)

/-- scupper/scupperlaw15.RollParts -/
def kp_l15_RollParts : Option (List Nat) := some [0, 1, 2, 3, 4, 8, 9, 10, 11, 12, 13, 14, 15, 16, 17, 18, 19, 20, 21, 22, 24, 32, 88, 136, 137]
noncomputable def c_l15_RollParts : Code := Try.f6.body.getD .skip
noncomputable def L_l15_RollParts_1 (E : FnA) (_n _n0 : Nat) (s : S) : Option (Ex × S) :=
  (pv s.bx (binA Try.prog .lss 3 (get s.env 13) (get s.env 11))).bind fun r89 =>
  condA r89.1 ((pv r89.2 (binA Try.prog .add 3 (get (prune kp_l15_RollParts s.env) 13) (.v (Go.Value.int Go.IntKind.i64 1)))).bind fun r90 =>
  (callA E md0 r90.2 24 [(get (prune kp_l15_RollParts s.env) 10), r90.1]).bind fun r91 =>
  (pv r91.2 (unA .not r91.1)).bind fun r92 =>
  (gsel true r92.2 (some ((get (prune kp_l15_RollParts (prune kp_l15_RollParts s.env)) 2), r92.2)) r92.1).bind fun r93 =>
  (gsel true r93.2 (some ((get (prune kp_l15_RollParts (prune kp_l15_RollParts s.env)) 13), r93.2)) r92.1).bind fun r94 =>
  (gsel true r94.2 (pv r94.2 (indexAddrA Try.prog 24 r93.1 r94.1)) r92.1).bind fun r95 =>
  (gsel true r95.2 (pv r95.2 (fieldAddrA Try.prog 34 r95.1 2)) r92.1).bind fun r96 =>
  (gsel true r96.2 (pv r96.2 (loadA Try.prog 3 r96.2 r96.1)) r92.1).bind fun r97 =>
  (gsel true r97.2 (some ((get (prune kp_l15_RollParts (prune kp_l15_RollParts s.env)) 2), r97.2)) r92.1).bind fun r98 =>
  (gsel true r98.2 (some ((get (prune kp_l15_RollParts (prune kp_l15_RollParts s.env)) 11), r98.2)) r92.1).bind fun r99 =>
  (gsel true r99.2 (pv r99.2 (indexAddrA Try.prog 24 r98.1 r99.1)) r92.1).bind fun r100 =>
  (gsel true r100.2 (pv r100.2 (fieldAddrA Try.prog 34 r100.1 2)) r92.1).bind fun r101 =>
  (gsel true r101.2 (pv r101.2 (loadA Try.prog 3 r101.2 r101.1)) r92.1).bind fun r102 =>
  (gsel true r102.2 (some ((get (prune kp_l15_RollParts (prune kp_l15_RollParts s.env)) 2), r102.2)) r92.1).bind fun r103 =>
  (gsel true r103.2 (some ((get (prune kp_l15_RollParts (prune kp_l15_RollParts s.env)) 11), r103.2)) r92.1).bind fun r104 =>
  (gsel true r104.2 (pv r104.2 (indexAddrA Try.prog 24 r103.1 r104.1)) r92.1).bind fun r105 =>
  (gsel true r105.2 (pv r105.2 (fieldAddrA Try.prog 34 r105.1 3)) r92.1).bind fun r106 =>
  (gsel true r106.2 (pv r106.2 (loadA Try.prog 31 r106.2 r106.1)) r92.1).bind fun r107 =>
  (gsel true r107.2 (pv r107.2 (lenA Try.prog 31 r107.1)) r92.1).bind fun r108 =>
  (gsel true r108.2 (pv r108.2 (binA Try.prog .add 3 r102.1 r108.1)) r92.1).bind fun r109 =>
  (gsel true r109.2 (pv r109.2 (binA Try.prog .lss 3 r97.1 r109.1)) r92.1).bind fun r110 =>
  (pv r110.2 (pickA r92.1 r110.1 (.v (Go.Value.bool false)))).bind fun r111 =>
  (gsel true r111.2 (some ((get (prune kp_l15_RollParts (prune kp_l15_RollParts s.env)) 2), r111.2)) r111.1).bind fun r112 =>
  (gsel true r112.2 (some ((get (prune kp_l15_RollParts (prune kp_l15_RollParts s.env)) 11), r112.2)) r111.1).bind fun r113 =>
  (gsel true r113.2 (pv r113.2 (indexAddrA Try.prog 24 r112.1 r113.1)) r111.1).bind fun r114 =>
  (gsel true r114.2 (pv r114.2 (fieldAddrA Try.prog 34 r114.1 2)) r111.1).bind fun r115 =>
  (gsel true r115.2 (pv r115.2 (loadA Try.prog 3 r115.2 r115.1)) r111.1).bind fun r116 =>
  (gsel true r116.2 (some ((get (prune kp_l15_RollParts (prune kp_l15_RollParts s.env)) 2), r116.2)) r111.1).bind fun r117 =>
  (gsel true r117.2 (some ((get (prune kp_l15_RollParts (prune kp_l15_RollParts s.env)) 13), r117.2)) r111.1).bind fun r118 =>
  (gsel true r118.2 (pv r118.2 (indexAddrA Try.prog 24 r117.1 r118.1)) r111.1).bind fun r119 =>
  (gsel true r119.2 (pv r119.2 (fieldAddrA Try.prog 34 r119.1 2)) r111.1).bind fun r120 =>
  (gsel true r120.2 (pv r120.2 (loadA Try.prog 3 r120.2 r120.1)) r111.1).bind fun r121 =>
  (gsel true r121.2 (some ((get (prune kp_l15_RollParts (prune kp_l15_RollParts s.env)) 2), r121.2)) r111.1).bind fun r122 =>
  (gsel true r122.2 (some ((get (prune kp_l15_RollParts (prune kp_l15_RollParts s.env)) 13), r122.2)) r111.1).bind fun r123 =>
  (gsel true r123.2 (pv r123.2 (indexAddrA Try.prog 24 r122.1 r123.1)) r111.1).bind fun r124 =>
  (gsel true r124.2 (pv r124.2 (fieldAddrA Try.prog 34 r124.1 3)) r111.1).bind fun r125 =>
  (gsel true r125.2 (pv r125.2 (loadA Try.prog 31 r125.2 r125.1)) r111.1).bind fun r126 =>
  (gsel true r126.2 (pv r126.2 (lenA Try.prog 31 r126.1)) r111.1).bind fun r127 =>
  (gsel true r127.2 (pv r127.2 (binA Try.prog .add 3 r121.1 r127.1)) r111.1).bind fun r128 =>
  (gsel true r128.2 (pv r128.2 (binA Try.prog .lss 3 r116.1 r128.1)) r111.1).bind fun r129 =>
  (pv r129.2 (pickA r111.1 r129.1 (.v (Go.Value.bool false)))).bind fun r130 =>
  condA r130.1 ((pv r130.2 (binA Try.prog .add 3 (get (prune kp_l15_RollParts (prune kp_l15_RollParts (prune kp_l15_RollParts (prune kp_l15_RollParts s.env)))) 13) (.v (Go.Value.int Go.IntKind.i64 1)))).bind fun r131 =>
  some (.normal, ⟨((13, r131.1) :: (12, (.v (Go.Value.bool false))) :: (136, r130.1) :: (14, r92.1) :: (88, r89.1) :: (prune kp_l15_RollParts (prune kp_l15_RollParts (prune kp_l15_RollParts (prune kp_l15_RollParts (prune kp_l15_RollParts s.env)))))), r131.2⟩)) ((pv r130.2 (binA Try.prog .add 3 (get (prune kp_l15_RollParts (prune kp_l15_RollParts (prune kp_l15_RollParts s.env))) 13) (.v (Go.Value.int Go.IntKind.i64 1)))).bind fun r132 =>
  some (.normal, ⟨((13, r132.1) :: (136, r130.1) :: (14, r92.1) :: (88, r89.1) :: (prune kp_l15_RollParts (prune kp_l15_RollParts (prune kp_l15_RollParts (prune kp_l15_RollParts s.env))))), r132.2⟩))) (some (.exit 2, ⟨((88, r89.1) :: (prune kp_l15_RollParts s.env)), r89.2⟩))
noncomputable def B_l15_RollParts_1 (E : FnA) (_n _n0 : Nat) (x13 x12 x32 x11 x10 x9 x2 x24 x8 x4 x0 x1 x2_1 x3 : AV) (y : Bx) : Option (Ex × S) :=
  (pv y (binA Try.prog .lss 3 x13 x11)).bind fun r45 =>
  condA r45.1 ((pv r45.2 (binA Try.prog .add 3 x13 (.v (Go.Value.int Go.IntKind.i64 1)))).bind fun r46 =>
  (callA E md0 r46.2 24 [x10, r46.1]).bind fun r47 =>
  (pv r47.2 (unA .not r47.1)).bind fun r48 =>
  (gsel true r48.2 (some (x2, r48.2)) r48.1).bind fun r49 =>
  (gsel true r49.2 (some (x13, r49.2)) r48.1).bind fun r50 =>
  (gsel true r50.2 (pv r50.2 (indexAddrA Try.prog 24 r49.1 r50.1)) r48.1).bind fun r51 =>
  (gsel true r51.2 (pv r51.2 (fieldAddrA Try.prog 34 r51.1 2)) r48.1).bind fun r52 =>
  (gsel true r52.2 (pv r52.2 (loadA Try.prog 3 r52.2 r52.1)) r48.1).bind fun r53 =>
  (gsel true r53.2 (some (x2, r53.2)) r48.1).bind fun r54 =>
  (gsel true r54.2 (some (x11, r54.2)) r48.1).bind fun r55 =>
  (gsel true r55.2 (pv r55.2 (indexAddrA Try.prog 24 r54.1 r55.1)) r48.1).bind fun r56 =>
  (gsel true r56.2 (pv r56.2 (fieldAddrA Try.prog 34 r56.1 2)) r48.1).bind fun r57 =>
  (gsel true r57.2 (pv r57.2 (loadA Try.prog 3 r57.2 r57.1)) r48.1).bind fun r58 =>
  (gsel true r58.2 (some (x2, r58.2)) r48.1).bind fun r59 =>
  (gsel true r59.2 (some (x11, r59.2)) r48.1).bind fun r60 =>
  (gsel true r60.2 (pv r60.2 (indexAddrA Try.prog 24 r59.1 r60.1)) r48.1).bind fun r61 =>
  (gsel true r61.2 (pv r61.2 (fieldAddrA Try.prog 34 r61.1 3)) r48.1).bind fun r62 =>
  (gsel true r62.2 (pv r62.2 (loadA Try.prog 31 r62.2 r62.1)) r48.1).bind fun r63 =>
  (gsel true r63.2 (pv r63.2 (lenA Try.prog 31 r63.1)) r48.1).bind fun r64 =>
  (gsel true r64.2 (pv r64.2 (binA Try.prog .add 3 r58.1 r64.1)) r48.1).bind fun r65 =>
  (gsel true r65.2 (pv r65.2 (binA Try.prog .lss 3 r53.1 r65.1)) r48.1).bind fun r66 =>
  (pv r66.2 (pickA r48.1 r66.1 (.v (Go.Value.bool false)))).bind fun r67 =>
  (gsel true r67.2 (some (x2, r67.2)) r67.1).bind fun r68 =>
  (gsel true r68.2 (some (x11, r68.2)) r67.1).bind fun r69 =>
  (gsel true r69.2 (pv r69.2 (indexAddrA Try.prog 24 r68.1 r69.1)) r67.1).bind fun r70 =>
  (gsel true r70.2 (pv r70.2 (fieldAddrA Try.prog 34 r70.1 2)) r67.1).bind fun r71 =>
  (gsel true r71.2 (pv r71.2 (loadA Try.prog 3 r71.2 r71.1)) r67.1).bind fun r72 =>
  (gsel true r72.2 (some (x2, r72.2)) r67.1).bind fun r73 =>
  (gsel true r73.2 (some (x13, r73.2)) r67.1).bind fun r74 =>
  (gsel true r74.2 (pv r74.2 (indexAddrA Try.prog 24 r73.1 r74.1)) r67.1).bind fun r75 =>
  (gsel true r75.2 (pv r75.2 (fieldAddrA Try.prog 34 r75.1 2)) r67.1).bind fun r76 =>
  (gsel true r76.2 (pv r76.2 (loadA Try.prog 3 r76.2 r76.1)) r67.1).bind fun r77 =>
  (gsel true r77.2 (some (x2, r77.2)) r67.1).bind fun r78 =>
  (gsel true r78.2 (some (x13, r78.2)) r67.1).bind fun r79 =>
  (gsel true r79.2 (pv r79.2 (indexAddrA Try.prog 24 r78.1 r79.1)) r67.1).bind fun r80 =>
  (gsel true r80.2 (pv r80.2 (fieldAddrA Try.prog 34 r80.1 3)) r67.1).bind fun r81 =>
  (gsel true r81.2 (pv r81.2 (loadA Try.prog 31 r81.2 r81.1)) r67.1).bind fun r82 =>
  (gsel true r82.2 (pv r82.2 (lenA Try.prog 31 r82.1)) r67.1).bind fun r83 =>
  (gsel true r83.2 (pv r83.2 (binA Try.prog .add 3 r77.1 r83.1)) r67.1).bind fun r84 =>
  (gsel true r84.2 (pv r84.2 (binA Try.prog .lss 3 r72.1 r84.1)) r67.1).bind fun r85 =>
  (pv r85.2 (pickA r67.1 r85.1 (.v (Go.Value.bool false)))).bind fun r86 =>
  condA r86.1 ((pv r86.2 (binA Try.prog .add 3 x13 (.v (Go.Value.int Go.IntKind.i64 1)))).bind fun r87 =>
  some (.normal, ⟨[(13, r87.1), (12, (.v (Go.Value.bool false))), (136, r86.1), (14, r48.1), (88, r45.1), (13, x13), (12, x12), (32, x32), (11, x11), (10, x10), (9, x9), (2, x2), (24, x24), (8, x8), (4, x4), (0, x0), (1, x1), (2, x2_1), (3, x3)], r87.2⟩)) ((pv r86.2 (binA Try.prog .add 3 x13 (.v (Go.Value.int Go.IntKind.i64 1)))).bind fun r88 =>
  some (.normal, ⟨[(13, r88.1), (136, r86.1), (14, r48.1), (88, r45.1), (13, x13), (12, x12), (32, x32), (11, x11), (10, x10), (9, x9), (2, x2), (24, x24), (8, x8), (4, x4), (0, x0), (1, x1), (2, x2_1), (3, x3)], r88.2⟩))) (some (.exit 2, ⟨[(88, r45.1), (13, x13), (12, x12), (32, x32), (11, x11), (10, x10), (9, x9), (2, x2), (24, x24), (8, x8), (4, x4), (0, x0), (1, x1), (2, x2_1), (3, x3)], r45.2⟩))
theorem L_l15_RollParts_1_lit {E : FnA} {n n0 : Nat} {x13 x12 x32 x11 x10 x9 x2 x24 x8 x4 x0 x1 x2_1 x3 : AV} {y : Bx} {Q : Ex → S → Prop} (h : Ends (B_l15_RollParts_1 E n n0 x13 x12 x32 x11 x10 x9 x2 x24 x8 x4 x0 x1 x2_1 x3 y) Q) : Ends (L_l15_RollParts_1 E n n0 ⟨[(13, x13), (12, x12), (32, x32), (11, x11), (10, x10), (9, x9), (2, x2), (24, x24), (8, x8), (4, x4), (0, x0), (1, x1), (2, x2_1), (3, x3)], y⟩) Q := by
  rw [show L_l15_RollParts_1 E n n0 ⟨[(13, x13), (12, x12), (32, x32), (11, x11), (10, x10), (9, x9), (2, x2), (24, x24), (8, x8), (4, x4), (0, x0), (1, x1), (2, x2_1), (3, x3)], y⟩ = B_l15_RollParts_1 E n n0 x13 x12 x32 x11 x10 x9 x2 x24 x8 x4 x0 x1 x2_1 x3 y by kernel_rfl]
  exact h
noncomputable def K_l15_RollParts_1 (_E : FnA) (_n n0 : Nat) (t : S) : Option (Ex × S) :=
  condA (get t.env 12) ((pv t.bx (indexAddrA Try.prog 24 (get (prune kp_l15_RollParts t.env) 2) (get (prune kp_l15_RollParts t.env) 11))).bind fun r143 =>
  (pv r143.2 (loadA Try.prog 34 r143.2 r143.1)).bind fun r144 =>
  (buildSliceA Try.prog r144.2 24 1 [(0, r144.1)]).bind fun r145 =>
  (appA Try.prog n0 r145.2 24 (get (prune kp_l15_RollParts t.env) 9) r145.1).bind fun r146 =>
  (pv r146.2.2 (binA Try.prog .add 3 (get (mapE r146.2.1 (prune kp_l15_RollParts t.env)) 11) (.v (Go.Value.int Go.IntKind.i64 1)))).bind fun r147 =>
  (buildSliceA Try.prog r147.2 32 1 [(0, r147.1)]).bind fun r148 =>
  (appA Try.prog n0 r148.2 32 (get (mapE r146.2.1 (prune kp_l15_RollParts t.env)) 10) r148.1).bind fun r149 =>
  (pv r149.2.2 (binA Try.prog .add 3 (get (prune kp_l15_RollParts (mapE r149.2.1 (mapE r146.2.1 (prune kp_l15_RollParts t.env)))) 11) (.v (Go.Value.int Go.IntKind.i64 1)))).bind fun r150 =>
  some (.normal, ⟨((11, r150.1) :: (10, r149.1) :: (9, (r149.2.1 r146.1)) :: (137, (r149.2.1 (r146.2.1 (get t.env 12)))) :: (prune kp_l15_RollParts (prune kp_l15_RollParts (mapE r149.2.1 (mapE r146.2.1 (prune kp_l15_RollParts t.env)))))), r150.2⟩)) ((pv t.bx (binA Try.prog .add 3 (get (prune kp_l15_RollParts t.env) 11) (.v (Go.Value.int Go.IntKind.i64 1)))).bind fun r151 =>
  some (.normal, ⟨((11, r151.1) :: (137, (get t.env 12)) :: (prune kp_l15_RollParts (prune kp_l15_RollParts t.env))), r151.2⟩))
noncomputable def X_l15_RollParts_1 (_E : FnA) (_n n0 : Nat) (i : Nat) (t : S) : Option (Ex × S) :=
  if i = 2 then condA (get t.env 12) ((pv t.bx (indexAddrA Try.prog 24 (get (prune kp_l15_RollParts t.env) 2) (get (prune kp_l15_RollParts t.env) 11))).bind fun r133 =>
  (pv r133.2 (loadA Try.prog 34 r133.2 r133.1)).bind fun r134 =>
  (buildSliceA Try.prog r134.2 24 1 [(0, r134.1)]).bind fun r135 =>
  (appA Try.prog n0 r135.2 24 (get (prune kp_l15_RollParts t.env) 9) r135.1).bind fun r136 =>
  (pv r136.2.2 (binA Try.prog .add 3 (get (mapE r136.2.1 (prune kp_l15_RollParts t.env)) 11) (.v (Go.Value.int Go.IntKind.i64 1)))).bind fun r137 =>
  (buildSliceA Try.prog r137.2 32 1 [(0, r137.1)]).bind fun r138 =>
  (appA Try.prog n0 r138.2 32 (get (mapE r136.2.1 (prune kp_l15_RollParts t.env)) 10) r138.1).bind fun r139 =>
  (pv r139.2.2 (binA Try.prog .add 3 (get (prune kp_l15_RollParts (mapE r139.2.1 (mapE r136.2.1 (prune kp_l15_RollParts t.env)))) 11) (.v (Go.Value.int Go.IntKind.i64 1)))).bind fun r140 =>
  some (.normal, ⟨((11, r140.1) :: (10, r139.1) :: (9, (r139.2.1 r136.1)) :: (137, (r139.2.1 (r136.2.1 (get t.env 12)))) :: (prune kp_l15_RollParts (prune kp_l15_RollParts (mapE r139.2.1 (mapE r136.2.1 (prune kp_l15_RollParts t.env)))))), r140.2⟩)) ((pv t.bx (binA Try.prog .add 3 (get (prune kp_l15_RollParts t.env) 11) (.v (Go.Value.int Go.IntKind.i64 1)))).bind fun r141 =>
  some (.normal, ⟨((11, r141.1) :: (137, (get t.env 12)) :: (prune kp_l15_RollParts (prune kp_l15_RollParts t.env))), r141.2⟩)) else if i = 1 then (pv t.bx (binA Try.prog .add 3 (get t.env 11) (.v (Go.Value.int Go.IntKind.i64 1)))).bind fun r142 =>
  some (.normal, ⟨((11, r142.1) :: (prune kp_l15_RollParts t.env)), r142.2⟩) else some (.exit i, ⟨t.env, t.bx⟩)
noncomputable def X_l15_RollParts_1_0 (_E : FnA) (_n n0 : Nat) (x88 x13 x12 x32 x11 x10 x9 x2 x24 x8 x4 x0 x1 x2_1 x3 : AV) (y : Bx) : Option (Ex × S) :=
  condA x12 ((pv y (indexAddrA Try.prog 24 x2 x11)).bind fun r152 =>
  (pv r152.2 (loadA Try.prog 34 r152.2 r152.1)).bind fun r153 =>
  (buildSliceA Try.prog r153.2 24 1 [(0, r153.1)]).bind fun r154 =>
  (appA Try.prog n0 r154.2 24 x9 r154.1).bind fun r155 =>
  (pv r155.2.2 (binA Try.prog .add 3 (r155.2.1 x11) (.v (Go.Value.int Go.IntKind.i64 1)))).bind fun r156 =>
  (buildSliceA Try.prog r156.2 32 1 [(0, r156.1)]).bind fun r157 =>
  (appA Try.prog n0 r157.2 32 (r155.2.1 x10) r157.1).bind fun r158 =>
  (pv r158.2.2 (binA Try.prog .add 3 (r158.2.1 (r155.2.1 x11)) (.v (Go.Value.int Go.IntKind.i64 1)))).bind fun r159 =>
  some (.normal, ⟨[(11, r159.1), (10, r158.1), (9, (r158.2.1 r155.1)), (137, (r158.2.1 (r155.2.1 x12))), (88, (r158.2.1 (r155.2.1 x88))), (13, (r158.2.1 (r155.2.1 x13))), (12, (r158.2.1 (r155.2.1 x12))), (32, (r158.2.1 (r155.2.1 x32))), (11, (r158.2.1 (r155.2.1 x11))), (10, (r158.2.1 (r155.2.1 x10))), (9, (r158.2.1 (r155.2.1 x9))), (2, (r158.2.1 (r155.2.1 x2))), (24, (r158.2.1 (r155.2.1 x24))), (8, (r158.2.1 (r155.2.1 x8))), (4, (r158.2.1 (r155.2.1 x4))), (0, (r158.2.1 (r155.2.1 x0))), (1, (r158.2.1 (r155.2.1 x1))), (2, (r158.2.1 (r155.2.1 x2_1))), (3, (r158.2.1 (r155.2.1 x3)))], r159.2⟩)) ((pv y (binA Try.prog .add 3 x11 (.v (Go.Value.int Go.IntKind.i64 1)))).bind fun r160 =>
  some (.normal, ⟨[(11, r160.1), (137, x12), (88, x88), (13, x13), (12, x12), (32, x32), (11, x11), (10, x10), (9, x9), (2, x2), (24, x24), (8, x8), (4, x4), (0, x0), (1, x1), (2, x2_1), (3, x3)], r160.2⟩))
theorem X_l15_RollParts_1_0_lit {E : FnA} {n n0 : Nat} {x88 x13 x12 x32 x11 x10 x9 x2 x24 x8 x4 x0 x1 x2_1 x3 : AV} {y : Bx} {Q : Ex → S → Prop} (h : Ends (X_l15_RollParts_1_0 E n n0 x88 x13 x12 x32 x11 x10 x9 x2 x24 x8 x4 x0 x1 x2_1 x3 y) Q) : Ends (X_l15_RollParts_1 E n n0 2 ⟨[(88, x88), (13, x13), (12, x12), (32, x32), (11, x11), (10, x10), (9, x9), (2, x2), (24, x24), (8, x8), (4, x4), (0, x0), (1, x1), (2, x2_1), (3, x3)], y⟩) Q := by
  rw [show X_l15_RollParts_1 E n n0 2 ⟨[(88, x88), (13, x13), (12, x12), (32, x32), (11, x11), (10, x10), (9, x9), (2, x2), (24, x24), (8, x8), (4, x4), (0, x0), (1, x1), (2, x2_1), (3, x3)], y⟩ = X_l15_RollParts_1_0 E n n0 x88 x13 x12 x32 x11 x10 x9 x2 x24 x8 x4 x0 x1 x2_1 x3 y by kernel_rfl]
  exact h
noncomputable def L_l15_RollParts_0 (E : FnA) (n n0 : Nat) (s : S) : Option (Ex × S) :=
  (pv s.bx (lenA Try.prog 24 (get s.env 2))).bind fun r161 =>
  (pv r161.2 (binA Try.prog .lss 3 (get s.env 11) r161.1)).bind fun r162 =>
  condA r162.1 ((pv r162.2 (binA Try.prog .rem 5 (get (prune kp_l15_RollParts s.env) 1) (.v (Go.Value.int Go.IntKind.u8 6)))).bind fun r163 =>
  (convA Try.prog r163.2 5 3 r163.1).bind fun r164 =>
  (pv r164.2 (binA Try.prog .add 3 (.v (Go.Value.int Go.IntKind.i64 1)) r164.1)).bind fun r165 =>
  (pv r165.2 (binA Try.prog .add 3 (get (prune kp_l15_RollParts s.env) 11) (.v (Go.Value.int Go.IntKind.i64 1)))).bind fun r166 =>
  (pv r166.2 (indexAddrA Try.prog 24 (get (prune kp_l15_RollParts s.env) 2) (get (prune kp_l15_RollParts s.env) 11))).bind fun r167 =>
  (pv r167.2 (fieldAddrA Try.prog 34 r167.1 4)).bind fun r168 =>
  (stA Try.prog 3 r168.2 r168.1 r165.1).bind fun r169 =>
  (pv r169.2 (indexAddrA Try.prog 24 (get (prune kp_l15_RollParts s.env) 2) (get (prune kp_l15_RollParts s.env) 11))).bind fun r170 =>
  (pv r170.2 (fieldAddrA Try.prog 34 r170.1 0)).bind fun r171 =>
  (stA Try.prog 3 r171.2 r171.1 r166.1).bind fun r172 =>
  (pv r172.2 (indexAddrA Try.prog 24 (get (prune kp_l15_RollParts (prune kp_l15_RollParts s.env)) 2) (get (prune kp_l15_RollParts (prune kp_l15_RollParts s.env)) 11))).bind fun r173 =>
  (pv r173.2 (fieldAddrA Try.prog 34 r173.1 3)).bind fun r174 =>
  (pv r174.2 (loadA Try.prog 31 r174.2 r174.1)).bind fun r175 =>
  (pv r175.2 (indexAddrA Try.prog 24 (get (prune kp_l15_RollParts (prune kp_l15_RollParts s.env)) 2) (get (prune kp_l15_RollParts (prune kp_l15_RollParts s.env)) 11))).bind fun r176 =>
  (pv r176.2 (fieldAddrA Try.prog 34 r176.1 3)).bind fun r177 =>
  (pv r177.2 (loadA Try.prog 31 r177.2 r177.1)).bind fun r178 =>
  (pv r178.2 (lenA Try.prog 31 r178.1)).bind fun r179 =>
  (pv r179.2 (minL false r179.1 [(.v (Go.Value.int Go.IntKind.i64 8))])).bind fun r180 =>
  (pv r180.2 (sliceA Try.prog r180.2 31 r175.1 none (some r180.1) none)).bind fun r181 =>
  (pv r181.2 (indexAddrA Try.prog 24 (get (prune kp_l15_RollParts (prune kp_l15_RollParts s.env)) 2) (get (prune kp_l15_RollParts (prune kp_l15_RollParts s.env)) 11))).bind fun r182 =>
  (pv r182.2 (fieldAddrA Try.prog 34 r182.1 3)).bind fun r183 =>
  (stA Try.prog 31 r183.2 r183.1 r181.1).bind fun r184 =>
  (pv r184.2 (indexAddrA Try.prog 24 (get (prune kp_l15_RollParts (prune kp_l15_RollParts (prune kp_l15_RollParts s.env))) 2) (get (prune kp_l15_RollParts (prune kp_l15_RollParts (prune kp_l15_RollParts s.env))) 11))).bind fun r185 =>
  (pv r185.2 (fieldAddrA Try.prog 34 r185.1 2)).bind fun r186 =>
  (pv r186.2 (loadA Try.prog 3 r186.2 r186.1)).bind fun r187 =>
  (callA E md0 r187.2 9 [r187.1, (.v (Go.Value.int Go.IntKind.i64 40))]).bind fun r188 =>
  (pv r188.2 (indexAddrA Try.prog 24 (get (prune kp_l15_RollParts (prune kp_l15_RollParts (prune kp_l15_RollParts s.env))) 2) (get (prune kp_l15_RollParts (prune kp_l15_RollParts (prune kp_l15_RollParts s.env))) 11))).bind fun r189 =>
  (pv r189.2 (fieldAddrA Try.prog 34 r189.1 2)).bind fun r190 =>
  (stA Try.prog 3 r190.2 r190.1 r188.1).bind fun r191 =>
  (pv r191.2 (lenA Try.prog 50 (get (prune kp_l15_RollParts (prune kp_l15_RollParts (prune kp_l15_RollParts (prune kp_l15_RollParts s.env)))) 3))).bind fun r192 =>
  (pv r192.2 (binA Try.prog .lss 3 (get (prune kp_l15_RollParts (prune kp_l15_RollParts (prune kp_l15_RollParts (prune kp_l15_RollParts s.env)))) 11) r192.1)).bind fun r193 =>
  (gsel true r193.2 (some ((get (prune kp_l15_RollParts (prune kp_l15_RollParts (prune kp_l15_RollParts (prune kp_l15_RollParts s.env)))) 3), r193.2)) r193.1).bind fun r194 =>
  (gsel true r194.2 (some ((get (prune kp_l15_RollParts (prune kp_l15_RollParts (prune kp_l15_RollParts (prune kp_l15_RollParts s.env)))) 11), r194.2)) r193.1).bind fun r195 =>
  (gsel true r195.2 (pv r195.2 (indexAddrA Try.prog 50 r194.1 r195.1)) r193.1).bind fun r196 =>
  (gsel true r196.2 (pv r196.2 (loadA Try.prog 4 r196.2 r196.1)) r193.1).bind fun r197 =>
  (pv r197.2 (pickA r193.1 r197.1 (.v (Go.Value.bool false)))).bind fun r198 =>
  exitA (iter (head ⟨((13, (.v (Go.Value.int Go.IntKind.i64 0))) :: (12, r198.1) :: (32, r162.1) :: (prune kp_l15_RollParts (prune kp_l15_RollParts (prune kp_l15_RollParts (prune kp_l15_RollParts (prune kp_l15_RollParts (prune kp_l15_RollParts s.env))))))), r198.2⟩) (L_l15_RollParts_1 E n n0) n ⟨((13, (.v (Go.Value.int Go.IntKind.i64 0))) :: (12, r198.1) :: (32, r162.1) :: (prune kp_l15_RollParts (prune kp_l15_RollParts (prune kp_l15_RollParts (prune kp_l15_RollParts (prune kp_l15_RollParts (prune kp_l15_RollParts s.env))))))), r198.2⟩) (K_l15_RollParts_1 E n n0) (X_l15_RollParts_1 E n n0)) (some (.exit 0, ⟨((32, r162.1) :: (prune kp_l15_RollParts s.env)), r162.2⟩))
noncomputable def B_l15_RollParts_0 (E : FnA) (n n0 : Nat) (x11 x10 x9 x2 x24 x8 x4 x0 x1 x2_1 x3 : AV) (y : Bx) : Option (Ex × S) :=
  (pv y (lenA Try.prog 24 x2)).bind fun r7 =>
  (pv r7.2 (binA Try.prog .lss 3 x11 r7.1)).bind fun r8 =>
  condA r8.1 ((pv r8.2 (binA Try.prog .rem 5 x1 (.v (Go.Value.int Go.IntKind.u8 6)))).bind fun r9 =>
  (convA Try.prog r9.2 5 3 r9.1).bind fun r10 =>
  (pv r10.2 (binA Try.prog .add 3 (.v (Go.Value.int Go.IntKind.i64 1)) r10.1)).bind fun r11 =>
  (pv r11.2 (binA Try.prog .add 3 x11 (.v (Go.Value.int Go.IntKind.i64 1)))).bind fun r12 =>
  (pv r12.2 (indexAddrA Try.prog 24 x2 x11)).bind fun r13 =>
  (pv r13.2 (fieldAddrA Try.prog 34 r13.1 4)).bind fun r14 =>
  (stA Try.prog 3 r14.2 r14.1 r11.1).bind fun r15 =>
  (pv r15.2 (indexAddrA Try.prog 24 x2 x11)).bind fun r16 =>
  (pv r16.2 (fieldAddrA Try.prog 34 r16.1 0)).bind fun r17 =>
  (stA Try.prog 3 r17.2 r17.1 r12.1).bind fun r18 =>
  (pv r18.2 (indexAddrA Try.prog 24 x2 x11)).bind fun r19 =>
  (pv r19.2 (fieldAddrA Try.prog 34 r19.1 3)).bind fun r20 =>
  (pv r20.2 (loadA Try.prog 31 r20.2 r20.1)).bind fun r21 =>
  (pv r21.2 (indexAddrA Try.prog 24 x2 x11)).bind fun r22 =>
  (pv r22.2 (fieldAddrA Try.prog 34 r22.1 3)).bind fun r23 =>
  (pv r23.2 (loadA Try.prog 31 r23.2 r23.1)).bind fun r24 =>
  (pv r24.2 (lenA Try.prog 31 r24.1)).bind fun r25 =>
  (pv r25.2 (minL false r25.1 [(.v (Go.Value.int Go.IntKind.i64 8))])).bind fun r26 =>
  (pv r26.2 (sliceA Try.prog r26.2 31 r21.1 none (some r26.1) none)).bind fun r27 =>
  (pv r27.2 (indexAddrA Try.prog 24 x2 x11)).bind fun r28 =>
  (pv r28.2 (fieldAddrA Try.prog 34 r28.1 3)).bind fun r29 =>
  (stA Try.prog 31 r29.2 r29.1 r27.1).bind fun r30 =>
  (pv r30.2 (indexAddrA Try.prog 24 x2 x11)).bind fun r31 =>
  (pv r31.2 (fieldAddrA Try.prog 34 r31.1 2)).bind fun r32 =>
  (pv r32.2 (loadA Try.prog 3 r32.2 r32.1)).bind fun r33 =>
  (callA E md0 r33.2 9 [r33.1, (.v (Go.Value.int Go.IntKind.i64 40))]).bind fun r34 =>
  (pv r34.2 (indexAddrA Try.prog 24 x2 x11)).bind fun r35 =>
  (pv r35.2 (fieldAddrA Try.prog 34 r35.1 2)).bind fun r36 =>
  (stA Try.prog 3 r36.2 r36.1 r34.1).bind fun r37 =>
  (pv r37.2 (lenA Try.prog 50 x3)).bind fun r38 =>
  (pv r38.2 (binA Try.prog .lss 3 x11 r38.1)).bind fun r39 =>
  (gsel true r39.2 (some (x3, r39.2)) r39.1).bind fun r40 =>
  (gsel true r40.2 (some (x11, r40.2)) r39.1).bind fun r41 =>
  (gsel true r41.2 (pv r41.2 (indexAddrA Try.prog 50 r40.1 r41.1)) r39.1).bind fun r42 =>
  (gsel true r42.2 (pv r42.2 (loadA Try.prog 4 r42.2 r42.1)) r39.1).bind fun r43 =>
  (pv r43.2 (pickA r39.1 r43.1 (.v (Go.Value.bool false)))).bind fun r44 =>
  exitA (iter (head ⟨[(13, (.v (Go.Value.int Go.IntKind.i64 0))), (12, r44.1), (32, r8.1), (11, x11), (10, x10), (9, x9), (2, x2), (24, x24), (8, x8), (4, x4), (0, x0), (1, x1), (2, x2_1), (3, x3)], r44.2⟩) (L_l15_RollParts_1 E n n0) n ⟨[(13, (.v (Go.Value.int Go.IntKind.i64 0))), (12, r44.1), (32, r8.1), (11, x11), (10, x10), (9, x9), (2, x2), (24, x24), (8, x8), (4, x4), (0, x0), (1, x1), (2, x2_1), (3, x3)], r44.2⟩) (K_l15_RollParts_1 E n n0) (X_l15_RollParts_1 E n n0)) (some (.exit 0, ⟨[(32, r8.1), (11, x11), (10, x10), (9, x9), (2, x2), (24, x24), (8, x8), (4, x4), (0, x0), (1, x1), (2, x2_1), (3, x3)], r8.2⟩))
theorem L_l15_RollParts_0_lit {E : FnA} {n n0 : Nat} {x11 x10 x9 x2 x24 x8 x4 x0 x1 x2_1 x3 : AV} {y : Bx} {Q : Ex → S → Prop} (h : Ends (B_l15_RollParts_0 E n n0 x11 x10 x9 x2 x24 x8 x4 x0 x1 x2_1 x3 y) Q) : Ends (L_l15_RollParts_0 E n n0 ⟨[(11, x11), (10, x10), (9, x9), (2, x2), (24, x24), (8, x8), (4, x4), (0, x0), (1, x1), (2, x2_1), (3, x3)], y⟩) Q := by
  rw [show L_l15_RollParts_0 E n n0 ⟨[(11, x11), (10, x10), (9, x9), (2, x2), (24, x24), (8, x8), (4, x4), (0, x0), (1, x1), (2, x2_1), (3, x3)], y⟩ = B_l15_RollParts_0 E n n0 x11 x10 x9 x2 x24 x8 x4 x0 x1 x2_1 x3 y by kernel_rfl]
  exact h
noncomputable def K_l15_RollParts_0 (E : FnA) (_n _n0 : Nat) (t : S) : Option (Ex × S) :=
  (pv t.bx (loadA Try.prog 23 t.bx (get t.env 4))).bind fun r242 =>
  (callA E md0 r242.2 10 [r242.1, (get t.env 2)]).bind fun r243 =>
  (pv r243.2 (tupA r243.1 0)).bind fun r244 =>
  (pv r244.2 (tupA r243.1 1)).bind fun r245 =>
  (allocA Try.prog r245.2 23).bind fun r246 =>
  (stA Try.prog 23 r246.2 r246.1 r244.1).bind fun r247 =>
  (pv r247.2 (loadA Try.prog 23 r247.2 (get (prune kp_l15_RollParts t.env) 4))).bind fun r248 =>
  (callA E md0 r248.2 18 [r248.1, (get (prune kp_l15_RollParts t.env) 2), (get (prune kp_l15_RollParts t.env) 10)]).bind fun r249 =>
  (pv r249.2 (tupA r249.1 0)).bind fun r250 =>
  (pv r250.2 (tupA r249.1 1)).bind fun r251 =>
  (allocA Try.prog r251.2 23).bind fun r252 =>
  (stA Try.prog 23 r252.2 r252.1 r250.1).bind fun r253 =>
  (allocA Try.prog r253.2 23).bind fun r254 =>
  (pv r254.2 (loadA Try.prog 23 r254.2 r252.1)).bind fun r255 =>
  (callA E md0 r255.2 21 [(get (prune kp_l15_RollParts (prune kp_l15_RollParts t.env)) 2), (get (prune kp_l15_RollParts (prune kp_l15_RollParts t.env)) 10)]).bind fun r256 =>
  (callA E md0 r256.2 10 [r255.1, r256.1]).bind fun r257 =>
  (pv r257.2 (tupA r257.1 0)).bind fun r258 =>
  (pv r258.2 (tupA r257.1 1)).bind fun r259 =>
  (stA Try.prog 23 r259.2 r254.1 r258.1).bind fun r260 =>
  (pv r260.2 (loadA Try.prog 23 r260.2 (get (prune kp_l15_RollParts (prune kp_l15_RollParts (prune kp_l15_RollParts t.env))) 4))).bind fun r261 =>
  (callA E md0 r261.2 10 [r261.1, (get (prune kp_l15_RollParts (prune kp_l15_RollParts (prune kp_l15_RollParts t.env))) 9)]).bind fun r262 =>
  (pv r262.2 (tupA r262.1 0)).bind fun r263 =>
  (pv r263.2 (tupA r262.1 1)).bind fun r264 =>
  (allocA Try.prog r264.2 23).bind fun r265 =>
  (stA Try.prog 23 r265.2 r265.1 r263.1).bind fun r266 =>
  (pv r266.2 (binA Try.prog .eql 28 r245.1 (.v (Go.Value.int Go.IntKind.i64 0)))).bind fun r267 =>
  (gsel true r267.2 (some (r251.1, r267.2)) r267.1).bind fun r268 =>
  (gsel true r268.2 (pv r268.2 (binA Try.prog .eql 28 r268.1 (.v (Go.Value.int Go.IntKind.i64 0)))) r267.1).bind fun r269 =>
  (pv r269.2 (pickA r267.1 r269.1 (.v (Go.Value.bool false)))).bind fun r270 =>
  (gsel true r270.2 (some (r259.1, r270.2)) r270.1).bind fun r271 =>
  (gsel true r271.2 (pv r271.2 (binA Try.prog .eql 28 r271.1 (.v (Go.Value.int Go.IntKind.i64 0)))) r270.1).bind fun r272 =>
  (pv r272.2 (pickA r270.1 r272.1 (.v (Go.Value.bool false)))).bind fun r273 =>
  (gsel true r273.2 (some (r264.1, r273.2)) r273.1).bind fun r274 =>
  (gsel true r274.2 (pv r274.2 (binA Try.prog .eql 28 r274.1 (.v (Go.Value.int Go.IntKind.i64 0)))) r273.1).bind fun r275 =>
  (pv r275.2 (pickA r273.1 r275.1 (.v (Go.Value.bool false)))).bind fun r276 =>
  (gsel true r276.2 (pv r276.2 (loadA Try.prog 23 r276.2 r265.1)) r276.1).bind fun r277 =>
  (gsel true r277.2 (pv r277.2 (loadA Try.prog 23 r277.2 r252.1)) r276.1).bind fun r278 =>
  (gsel true r278.2 (pv r278.2 (binA Try.prog .eql 23 r277.1 r278.1)) r276.1).bind fun r279 =>
  (pv r279.2 (pickA r276.1 r279.1 (.v (Go.Value.bool false)))).bind fun r280 =>
  (gsel true r280.2 (pv r280.2 (loadA Try.prog 23 r280.2 r246.1)) r280.1).bind fun r281 =>
  (gsel true r281.2 (pv r281.2 (loadA Try.prog 23 r281.2 r254.1)) r280.1).bind fun r282 =>
  (gsel true r282.2 (callA E md0 r282.2 11 [r281.1, r282.1]) r280.1).bind fun r283 =>
  (pv r283.2 (pickA r280.1 r283.1 (.v (Go.Value.bool false)))).bind fun r284 =>
  some (.ret, ⟨((8, r284.1) :: (22, r264.1) :: (21, r265.1) :: (20, r259.1) :: (19, r254.1) :: (18, r251.1) :: (17, r252.1) :: (16, r245.1) :: (15, r246.1) :: (prune kp_l15_RollParts (prune kp_l15_RollParts (prune kp_l15_RollParts (prune kp_l15_RollParts (prune kp_l15_RollParts t.env)))))), r284.2⟩)
noncomputable def X_l15_RollParts_0 (E : FnA) (_n _n0 : Nat) (i : Nat) (t : S) : Option (Ex × S) :=
  if i = 0 then (pv t.bx (loadA Try.prog 23 t.bx (get t.env 4))).bind fun r199 =>
  (callA E md0 r199.2 10 [r199.1, (get t.env 2)]).bind fun r200 =>
  (pv r200.2 (tupA r200.1 0)).bind fun r201 =>
  (pv r201.2 (tupA r200.1 1)).bind fun r202 =>
  (allocA Try.prog r202.2 23).bind fun r203 =>
  (stA Try.prog 23 r203.2 r203.1 r201.1).bind fun r204 =>
  (pv r204.2 (loadA Try.prog 23 r204.2 (get (prune kp_l15_RollParts t.env) 4))).bind fun r205 =>
  (callA E md0 r205.2 18 [r205.1, (get (prune kp_l15_RollParts t.env) 2), (get (prune kp_l15_RollParts t.env) 10)]).bind fun r206 =>
  (pv r206.2 (tupA r206.1 0)).bind fun r207 =>
  (pv r207.2 (tupA r206.1 1)).bind fun r208 =>
  (allocA Try.prog r208.2 23).bind fun r209 =>
  (stA Try.prog 23 r209.2 r209.1 r207.1).bind fun r210 =>
  (allocA Try.prog r210.2 23).bind fun r211 =>
  (pv r211.2 (loadA Try.prog 23 r211.2 r209.1)).bind fun r212 =>
  (callA E md0 r212.2 21 [(get (prune kp_l15_RollParts (prune kp_l15_RollParts t.env)) 2), (get (prune kp_l15_RollParts (prune kp_l15_RollParts t.env)) 10)]).bind fun r213 =>
  (callA E md0 r213.2 10 [r212.1, r213.1]).bind fun r214 =>
  (pv r214.2 (tupA r214.1 0)).bind fun r215 =>
  (pv r215.2 (tupA r214.1 1)).bind fun r216 =>
  (stA Try.prog 23 r216.2 r211.1 r215.1).bind fun r217 =>
  (pv r217.2 (loadA Try.prog 23 r217.2 (get (prune kp_l15_RollParts (prune kp_l15_RollParts (prune kp_l15_RollParts t.env))) 4))).bind fun r218 =>
  (callA E md0 r218.2 10 [r218.1, (get (prune kp_l15_RollParts (prune kp_l15_RollParts (prune kp_l15_RollParts t.env))) 9)]).bind fun r219 =>
  (pv r219.2 (tupA r219.1 0)).bind fun r220 =>
  (pv r220.2 (tupA r219.1 1)).bind fun r221 =>
  (allocA Try.prog r221.2 23).bind fun r222 =>
  (stA Try.prog 23 r222.2 r222.1 r220.1).bind fun r223 =>
  (pv r223.2 (binA Try.prog .eql 28 r202.1 (.v (Go.Value.int Go.IntKind.i64 0)))).bind fun r224 =>
  (gsel true r224.2 (some (r208.1, r224.2)) r224.1).bind fun r225 =>
  (gsel true r225.2 (pv r225.2 (binA Try.prog .eql 28 r225.1 (.v (Go.Value.int Go.IntKind.i64 0)))) r224.1).bind fun r226 =>
  (pv r226.2 (pickA r224.1 r226.1 (.v (Go.Value.bool false)))).bind fun r227 =>
  (gsel true r227.2 (some (r216.1, r227.2)) r227.1).bind fun r228 =>
  (gsel true r228.2 (pv r228.2 (binA Try.prog .eql 28 r228.1 (.v (Go.Value.int Go.IntKind.i64 0)))) r227.1).bind fun r229 =>
  (pv r229.2 (pickA r227.1 r229.1 (.v (Go.Value.bool false)))).bind fun r230 =>
  (gsel true r230.2 (some (r221.1, r230.2)) r230.1).bind fun r231 =>
  (gsel true r231.2 (pv r231.2 (binA Try.prog .eql 28 r231.1 (.v (Go.Value.int Go.IntKind.i64 0)))) r230.1).bind fun r232 =>
  (pv r232.2 (pickA r230.1 r232.1 (.v (Go.Value.bool false)))).bind fun r233 =>
  (gsel true r233.2 (pv r233.2 (loadA Try.prog 23 r233.2 r222.1)) r233.1).bind fun r234 =>
  (gsel true r234.2 (pv r234.2 (loadA Try.prog 23 r234.2 r209.1)) r233.1).bind fun r235 =>
  (gsel true r235.2 (pv r235.2 (binA Try.prog .eql 23 r234.1 r235.1)) r233.1).bind fun r236 =>
  (pv r236.2 (pickA r233.1 r236.1 (.v (Go.Value.bool false)))).bind fun r237 =>
  (gsel true r237.2 (pv r237.2 (loadA Try.prog 23 r237.2 r203.1)) r237.1).bind fun r238 =>
  (gsel true r238.2 (pv r238.2 (loadA Try.prog 23 r238.2 r211.1)) r237.1).bind fun r239 =>
  (gsel true r239.2 (callA E md0 r239.2 11 [r238.1, r239.1]) r237.1).bind fun r240 =>
  (pv r240.2 (pickA r237.1 r240.1 (.v (Go.Value.bool false)))).bind fun r241 =>
  some (.ret, ⟨((8, r241.1) :: (22, r221.1) :: (21, r222.1) :: (20, r216.1) :: (19, r211.1) :: (18, r208.1) :: (17, r209.1) :: (16, r202.1) :: (15, r203.1) :: (prune kp_l15_RollParts (prune kp_l15_RollParts (prune kp_l15_RollParts (prune kp_l15_RollParts (prune kp_l15_RollParts t.env)))))), r241.2⟩) else some (.exit i, ⟨t.env, t.bx⟩)
noncomputable def X_l15_RollParts_0_0 (E : FnA) (_n _n0 : Nat) (x32 x11 x10 x9 x2 x24 x8 x4 x0 x1 x2_1 x3 : AV) (y : Bx) : Option (Ex × S) :=
  (pv y (loadA Try.prog 23 y x4)).bind fun r285 =>
  (callA E md0 r285.2 10 [r285.1, x2]).bind fun r286 =>
  (pv r286.2 (tupA r286.1 0)).bind fun r287 =>
  (pv r287.2 (tupA r286.1 1)).bind fun r288 =>
  (allocA Try.prog r288.2 23).bind fun r289 =>
  (stA Try.prog 23 r289.2 r289.1 r287.1).bind fun r290 =>
  (pv r290.2 (loadA Try.prog 23 r290.2 x4)).bind fun r291 =>
  (callA E md0 r291.2 18 [r291.1, x2, x10]).bind fun r292 =>
  (pv r292.2 (tupA r292.1 0)).bind fun r293 =>
  (pv r293.2 (tupA r292.1 1)).bind fun r294 =>
  (allocA Try.prog r294.2 23).bind fun r295 =>
  (stA Try.prog 23 r295.2 r295.1 r293.1).bind fun r296 =>
  (allocA Try.prog r296.2 23).bind fun r297 =>
  (pv r297.2 (loadA Try.prog 23 r297.2 r295.1)).bind fun r298 =>
  (callA E md0 r298.2 21 [x2, x10]).bind fun r299 =>
  (callA E md0 r299.2 10 [r298.1, r299.1]).bind fun r300 =>
  (pv r300.2 (tupA r300.1 0)).bind fun r301 =>
  (pv r301.2 (tupA r300.1 1)).bind fun r302 =>
  (stA Try.prog 23 r302.2 r297.1 r301.1).bind fun r303 =>
  (pv r303.2 (loadA Try.prog 23 r303.2 x4)).bind fun r304 =>
  (callA E md0 r304.2 10 [r304.1, x9]).bind fun r305 =>
  (pv r305.2 (tupA r305.1 0)).bind fun r306 =>
  (pv r306.2 (tupA r305.1 1)).bind fun r307 =>
  (allocA Try.prog r307.2 23).bind fun r308 =>
  (stA Try.prog 23 r308.2 r308.1 r306.1).bind fun r309 =>
  (pv r309.2 (binA Try.prog .eql 28 r288.1 (.v (Go.Value.int Go.IntKind.i64 0)))).bind fun r310 =>
  (gsel true r310.2 (some (r294.1, r310.2)) r310.1).bind fun r311 =>
  (gsel true r311.2 (pv r311.2 (binA Try.prog .eql 28 r311.1 (.v (Go.Value.int Go.IntKind.i64 0)))) r310.1).bind fun r312 =>
  (pv r312.2 (pickA r310.1 r312.1 (.v (Go.Value.bool false)))).bind fun r313 =>
  (gsel true r313.2 (some (r302.1, r313.2)) r313.1).bind fun r314 =>
  (gsel true r314.2 (pv r314.2 (binA Try.prog .eql 28 r314.1 (.v (Go.Value.int Go.IntKind.i64 0)))) r313.1).bind fun r315 =>
  (pv r315.2 (pickA r313.1 r315.1 (.v (Go.Value.bool false)))).bind fun r316 =>
  (gsel true r316.2 (some (r307.1, r316.2)) r316.1).bind fun r317 =>
  (gsel true r317.2 (pv r317.2 (binA Try.prog .eql 28 r317.1 (.v (Go.Value.int Go.IntKind.i64 0)))) r316.1).bind fun r318 =>
  (pv r318.2 (pickA r316.1 r318.1 (.v (Go.Value.bool false)))).bind fun r319 =>
  (gsel true r319.2 (pv r319.2 (loadA Try.prog 23 r319.2 r308.1)) r319.1).bind fun r320 =>
  (gsel true r320.2 (pv r320.2 (loadA Try.prog 23 r320.2 r295.1)) r319.1).bind fun r321 =>
  (gsel true r321.2 (pv r321.2 (binA Try.prog .eql 23 r320.1 r321.1)) r319.1).bind fun r322 =>
  (pv r322.2 (pickA r319.1 r322.1 (.v (Go.Value.bool false)))).bind fun r323 =>
  (gsel true r323.2 (pv r323.2 (loadA Try.prog 23 r323.2 r289.1)) r323.1).bind fun r324 =>
  (gsel true r324.2 (pv r324.2 (loadA Try.prog 23 r324.2 r297.1)) r323.1).bind fun r325 =>
  (gsel true r325.2 (callA E md0 r325.2 11 [r324.1, r325.1]) r323.1).bind fun r326 =>
  (pv r326.2 (pickA r323.1 r326.1 (.v (Go.Value.bool false)))).bind fun r327 =>
  some (.ret, ⟨[(8, r327.1), (22, r307.1), (21, r308.1), (20, r302.1), (19, r297.1), (18, r294.1), (17, r295.1), (16, r288.1), (15, r289.1), (32, x32), (11, x11), (10, x10), (9, x9), (2, x2), (24, x24), (8, x8), (4, x4), (0, x0), (1, x1), (2, x2_1), (3, x3)], r327.2⟩)
theorem X_l15_RollParts_0_0_lit {E : FnA} {n n0 : Nat} {x32 x11 x10 x9 x2 x24 x8 x4 x0 x1 x2_1 x3 : AV} {y : Bx} {Q : Ex → S → Prop} (h : Ends (X_l15_RollParts_0_0 E n n0 x32 x11 x10 x9 x2 x24 x8 x4 x0 x1 x2_1 x3 y) Q) : Ends (X_l15_RollParts_0 E n n0 0 ⟨[(32, x32), (11, x11), (10, x10), (9, x9), (2, x2), (24, x24), (8, x8), (4, x4), (0, x0), (1, x1), (2, x2_1), (3, x3)], y⟩) Q := by
  rw [show X_l15_RollParts_0 E n n0 0 ⟨[(32, x32), (11, x11), (10, x10), (9, x9), (2, x2), (24, x24), (8, x8), (4, x4), (0, x0), (1, x1), (2, x2_1), (3, x3)], y⟩ = X_l15_RollParts_0_0 E n n0 x32 x11 x10 x9 x2 x24 x8 x4 x0 x1 x2_1 x3 y by kernel_rfl]
  exact h
noncomputable def F_l15_RollParts (E : FnA) (n n0 : Nat) (a0 a1 a2 a3 : AV) (bx : Bx) : Option (Ex × S) :=
  (boxA bx a0).bind fun r1 =>
  (callA E md0 r1.2 7 []).bind fun r2 =>
  (pv r2.2 (unA .not r2.1)).bind fun r3 =>
  condA r3.1 (some (.ret, ⟨[(8, (.v (Go.Value.bool false))), (24, r3.1), (8, (.v (Go.Value.bool false))), (4, r1.1), (0, a0), (1, a1), (2, a2), (3, a3)], r3.2⟩)) ((callA E md0 r3.2 8 [a2]).bind fun r4 =>
  (buildSliceA Try.prog r4.2 24 0 []).bind fun r5 =>
  (buildSliceA Try.prog r5.2 32 0 []).bind fun r6 =>
  exitA (iter (head ⟨[(11, (.v (Go.Value.int Go.IntKind.i64 0))), (10, r6.1), (9, r5.1), (2, r4.1), (24, r3.1), (8, (.v (Go.Value.bool false))), (4, r1.1), (0, a0), (1, a1), (2, a2), (3, a3)], r6.2⟩) (L_l15_RollParts_0 E n n0) n ⟨[(11, (.v (Go.Value.int Go.IntKind.i64 0))), (10, r6.1), (9, r5.1), (2, r4.1), (24, r3.1), (8, (.v (Go.Value.bool false))), (4, r1.1), (0, a0), (1, a1), (2, a2), (3, a3)], r6.2⟩) (K_l15_RollParts_0 E n n0) (X_l15_RollParts_0 E n n0))
theorem c_l15_RollParts_eq : Try.f6.body = some c_l15_RollParts := by kernel_rfl
theorem d_l15_RollParts : drawsOk Try.prog md0 c_l15_RollParts = true := by kernel_rfl
theorem F_l15_RollParts_eq (E : FnA) (n n0 : Nat) (a0 a1 a2 a3 : AV) (bx : Bx) : evK Try.prog md0 E 201 kp_l15_RollParts n n0 c_l15_RollParts ⟨[(0, a0), (1, a1), (2, a2), (3, a3)], bx⟩ (fun s => some (.normal, s)) (fun i s => some (.exit i, s)) = F_l15_RollParts E n n0 a0 a1 a2 a3 bx := by kernel_rfl

theorem E_l15_RollParts (n : Nat) (a0 a1 a2 a3 : AV) (bx : Bx) : evFn cx0 ext0 (n + 1) 6 [a0, a1, a2, a3] bx = fin Try.prog [.tmp 8] (F_l15_RollParts (evFn cx0 ext0 n) n bx.length a0 a1 a2 a3 bx) := by
  rw [evFn_eq2 (cx := cx0) (c := c_l15_RollParts) rfl Try.func6 c_l15_RollParts_eq (of_decide_eq_true (by kernel_rfl)) d_l15_RollParts (of_decide_eq_true (by kernel_rfl))]
  exact congrArg (fin Try.prog [.tmp 8]) (F_l15_RollParts_eq (evFn cx0 ext0 n) n bx.length a0 a1 a2 a3 bx)

/-- scupper/scupperlaw15.works -/
def kp_l15_works : Option (List Nat) := some [0, 1, 2, 3, 4]
noncomputable def c_l15_works : Code := Try.f7.body.getD .skip
noncomputable def F_l15_works (E : FnA) (_n _n0 : Nat) (bx : Bx) : Option (Ex × S) :=
  (pv bx (buildA Try.prog 23 [])).bind fun r1 =>
  (buildSliceA Try.prog r1.2 31 1 [(0, (.v (Go.Value.int Go.IntKind.u8 7)))]).bind fun r2 =>
  (pv r2.2 (buildA Try.prog 34 [(2, (.v (Go.Value.int Go.IntKind.i64 3))), (3, r2.1)])).bind fun r3 =>
  (callA E md0 r3.2 25 [r1.1, r3.1, (.v (Go.Value.int Go.IntKind.u32 1))]).bind fun r4 =>
  (pv r4.2 (tupA r4.1 0)).bind fun r5 =>
  (pv r5.2 (tupA r4.1 1)).bind fun r6 =>
  (allocA Try.prog r6.2 23).bind fun r7 =>
  (stA Try.prog 23 r7.2 r7.1 r5.1).bind fun r8 =>
  (pv r8.2 (buildA Try.prog 23 [])).bind fun r9 =>
  (buildSliceA Try.prog r9.2 31 1 [(0, (.v (Go.Value.int Go.IntKind.u8 7)))]).bind fun r10 =>
  (pv r10.2 (buildA Try.prog 34 [(2, (.v (Go.Value.int Go.IntKind.i64 3))), (3, r10.1), (4, (.v (Go.Value.int Go.IntKind.i64 4)))])).bind fun r11 =>
  (buildSliceA Try.prog r11.2 24 1 [(0, r11.1)]).bind fun r12 =>
  (callA E md0 r12.2 10 [r9.1, r12.1]).bind fun r13 =>
  (pv r13.2 (tupA r13.1 0)).bind fun r14 =>
  (pv r14.2 (tupA r13.1 1)).bind fun r15 =>
  (allocA Try.prog r15.2 23).bind fun r16 =>
  (stA Try.prog 23 r16.2 r16.1 r14.1).bind fun r17 =>
  (pv r17.2 (binA Try.prog .eql 28 r6.1 (.v (Go.Value.int Go.IntKind.i64 0)))).bind fun r18 =>
  (gsel true r18.2 (pv r18.2 (indexAddrA Try.prog 23 r7.1 (.v (Go.Value.int Go.IntKind.i64 3)))) r18.1).bind fun r19 =>
  (gsel true r19.2 (pv r19.2 (loadA Try.prog 5 r19.2 r19.1)) r18.1).bind fun r20 =>
  (gsel true r20.2 (pv r20.2 (binA Try.prog .eql 5 r20.1 (.v (Go.Value.int Go.IntKind.u8 7)))) r18.1).bind fun r21 =>
  (pv r21.2 (pickA r18.1 r21.1 (.v (Go.Value.bool false)))).bind fun r22 =>
  (gsel true r22.2 (some (r15.1, r22.2)) r22.1).bind fun r23 =>
  (gsel true r23.2 (pv r23.2 (binA Try.prog .eql 28 r23.1 (.v (Go.Value.int Go.IntKind.i64 0)))) r22.1).bind fun r24 =>
  (pv r24.2 (pickA r22.1 r24.1 (.v (Go.Value.bool false)))).bind fun r25 =>
  (gsel true r25.2 (pv r25.2 (loadA Try.prog 23 r25.2 r16.1)) r25.1).bind fun r26 =>
  (gsel true r26.2 (callA E md0 r26.2 15 [r26.1, (.v (Go.Value.int Go.IntKind.i64 4))]) r25.1).bind fun r27 =>
  (gsel true r27.2 (pv r27.2 (indexA Try.prog 38 r27.1 (.v (Go.Value.int Go.IntKind.i64 3)))) r25.1).bind fun r28 =>
  (gsel true r28.2 (pv r28.2 (binA Try.prog .eql 5 r28.1 (.v (Go.Value.int Go.IntKind.u8 7)))) r25.1).bind fun r29 =>
  (pv r29.2 (pickA r25.1 r29.1 (.v (Go.Value.bool false)))).bind fun r30 =>
  (gsel true r30.2 (pv r30.2 (loadA Try.prog 23 r30.2 r16.1)) r30.1).bind fun r31 =>
  (gsel true r31.2 (callA E md0 r31.2 13 [r31.1]) r30.1).bind fun r32 =>
  (gsel true r32.2 (pv r32.2 (binA Try.prog .eql 39 r32.1 (.v (Go.Value.int Go.IntKind.u32 2)))) r30.1).bind fun r33 =>
  (pv r33.2 (pickA r30.1 r33.1 (.v (Go.Value.bool false)))).bind fun r34 =>
  some (.ret, ⟨[(0, r34.1), (4, r15.1), (3, r16.1), (2, r6.1), (1, r7.1), (0, (.v (Go.Value.bool false)))], r34.2⟩)
theorem c_l15_works_eq : Try.f7.body = some c_l15_works := by kernel_rfl
theorem d_l15_works : drawsOk Try.prog md0 c_l15_works = true := by kernel_rfl
theorem F_l15_works_eq (E : FnA) (n n0 : Nat) (bx : Bx) : evK Try.prog md0 E 42 kp_l15_works n n0 c_l15_works ⟨[], bx⟩ (fun s => some (.normal, s)) (fun i s => some (.exit i, s)) = F_l15_works E n n0  bx := by kernel_rfl

theorem E_l15_works (n : Nat) (bx : Bx) : evFn cx0 ext0 (n + 1) 7 [] bx = fin Try.prog [.tmp 0] (F_l15_works (evFn cx0 ext0 n) n bx.length  bx) := by
  rw [evFn_eq2 (cx := cx0) (c := c_l15_works) rfl Try.func7 c_l15_works_eq (of_decide_eq_true (by kernel_rfl)) d_l15_works (of_decide_eq_true (by kernel_rfl))]
  exact congrArg (fin Try.prog [.tmp 0]) (F_l15_works_eq (evFn cx0 ext0 n) n bx.length  bx)

/-- scupper/scupperlaw15.few -/
def kp_l15_few : Option (List Nat) := some [0, 2, 3, 4, 13]
noncomputable def c_l15_few : Code := Try.f8.body.getD .skip
noncomputable def L_l15_few_0 (E : FnA) (_n n0 : Nat) (s : S) : Option (Ex × S) :=
  (pv s.bx (lenA Try.prog 24 (get s.env 0))).bind fun r14 =>
  (pv r14.2 (binA Try.prog .lss 3 (get s.env 4) r14.1)).bind fun r15 =>
  (gsel true r15.2 (some ((get s.env 4), r15.2)) r15.1).bind fun r16 =>
  (gsel true r16.2 (pv r16.2 (binA Try.prog .lss 3 r16.1 (.v (Go.Value.int Go.IntKind.i64 20)))) r15.1).bind fun r17 =>
  (pv r17.2 (pickA r15.1 r17.1 (.v (Go.Value.bool false)))).bind fun r18 =>
  condA r18.1 ((pv r18.2 (indexAddrA Try.prog 24 (get (prune kp_l15_few s.env) 0) (get (prune kp_l15_few s.env) 4))).bind fun r19 =>
  (pv r19.2 (loadA Try.prog 34 r19.2 r19.1)).bind fun r20 =>
  (callA E md0 r20.2 26 [r20.1]).bind fun r21 =>
  (buildSliceA Try.prog r21.2 24 1 [(0, r21.1)]).bind fun r22 =>
  (appA Try.prog n0 r22.2 24 (get (prune kp_l15_few s.env) 3) r22.1).bind fun r23 =>
  (pv r23.2.2 (binA Try.prog .add 3 (get (prune kp_l15_few (mapE r23.2.1 (prune kp_l15_few s.env))) 4) (.v (Go.Value.int Go.IntKind.i64 1)))).bind fun r24 =>
  some (.normal, ⟨((4, r24.1) :: (3, r23.1) :: (13, (r23.2.1 r18.1)) :: (prune kp_l15_few (prune kp_l15_few (mapE r23.2.1 (prune kp_l15_few s.env))))), r24.2⟩)) (some (.exit 0, ⟨((13, r18.1) :: (prune kp_l15_few s.env)), r18.2⟩))
noncomputable def B_l15_few_0 (E : FnA) (_n n0 : Nat) (x4 x3 x2 x0 : AV) (y : Bx) : Option (Ex × S) :=
  (pv y (lenA Try.prog 24 x0)).bind fun r3 =>
  (pv r3.2 (binA Try.prog .lss 3 x4 r3.1)).bind fun r4 =>
  (gsel true r4.2 (some (x4, r4.2)) r4.1).bind fun r5 =>
  (gsel true r5.2 (pv r5.2 (binA Try.prog .lss 3 r5.1 (.v (Go.Value.int Go.IntKind.i64 20)))) r4.1).bind fun r6 =>
  (pv r6.2 (pickA r4.1 r6.1 (.v (Go.Value.bool false)))).bind fun r7 =>
  condA r7.1 ((pv r7.2 (indexAddrA Try.prog 24 x0 x4)).bind fun r8 =>
  (pv r8.2 (loadA Try.prog 34 r8.2 r8.1)).bind fun r9 =>
  (callA E md0 r9.2 26 [r9.1]).bind fun r10 =>
  (buildSliceA Try.prog r10.2 24 1 [(0, r10.1)]).bind fun r11 =>
  (appA Try.prog n0 r11.2 24 x3 r11.1).bind fun r12 =>
  (pv r12.2.2 (binA Try.prog .add 3 (r12.2.1 x4) (.v (Go.Value.int Go.IntKind.i64 1)))).bind fun r13 =>
  some (.normal, ⟨[(4, r13.1), (3, r12.1), (13, (r12.2.1 r7.1)), (4, (r12.2.1 x4)), (3, (r12.2.1 x3)), (2, (r12.2.1 x2)), (0, (r12.2.1 x0))], r13.2⟩)) (some (.exit 0, ⟨[(13, r7.1), (4, x4), (3, x3), (2, x2), (0, x0)], r7.2⟩))
theorem L_l15_few_0_lit {E : FnA} {n n0 : Nat} {x4 x3 x2 x0 : AV} {y : Bx} {Q : Ex → S → Prop} (h : Ends (B_l15_few_0 E n n0 x4 x3 x2 x0 y) Q) : Ends (L_l15_few_0 E n n0 ⟨[(4, x4), (3, x3), (2, x2), (0, x0)], y⟩) Q := by
  rw [show L_l15_few_0 E n n0 ⟨[(4, x4), (3, x3), (2, x2), (0, x0)], y⟩ = B_l15_few_0 E n n0 x4 x3 x2 x0 y by kernel_rfl]
  exact h
noncomputable def K_l15_few_0 (_E : FnA) (_n _n0 : Nat) (t : S) : Option (Ex × S) :=
  some (.ret, ⟨((2, (get t.env 3)) :: (prune kp_l15_few t.env)), t.bx⟩)
noncomputable def X_l15_few_0 (_E : FnA) (_n _n0 : Nat) (i : Nat) (t : S) : Option (Ex × S) :=
  if i = 0 then some (.ret, ⟨((2, (get t.env 3)) :: (prune kp_l15_few t.env)), t.bx⟩) else some (.exit i, ⟨t.env, t.bx⟩)
noncomputable def X_l15_few_0_0 (_E : FnA) (_n _n0 : Nat) (x13 x4 x3 x2 x0 : AV) (y : Bx) : Option (Ex × S) :=
  some (.ret, ⟨[(2, x3), (13, x13), (4, x4), (3, x3), (2, x2), (0, x0)], y⟩)
theorem X_l15_few_0_0_lit {E : FnA} {n n0 : Nat} {x13 x4 x3 x2 x0 : AV} {y : Bx} {Q : Ex → S → Prop} (h : Ends (X_l15_few_0_0 E n n0 x13 x4 x3 x2 x0 y) Q) : Ends (X_l15_few_0 E n n0 0 ⟨[(13, x13), (4, x4), (3, x3), (2, x2), (0, x0)], y⟩) Q := by
  rw [show X_l15_few_0 E n n0 0 ⟨[(13, x13), (4, x4), (3, x3), (2, x2), (0, x0)], y⟩ = X_l15_few_0_0 E n n0 x13 x4 x3 x2 x0 y by kernel_rfl]
  exact h
noncomputable def F_l15_few (E : FnA) (n n0 : Nat) (a0 : AV) (bx : Bx) : Option (Ex × S) :=
  (some (AV.bsl (List.length bx) 0 0 0, bx ++ [[]])).bind fun r1 =>
  (buildSliceA Try.prog r1.2 24 0 []).bind fun r2 =>
  exitA (iter (head ⟨[(4, (.v (Go.Value.int Go.IntKind.i64 0))), (3, r2.1), (2, r1.1), (0, a0)], r2.2⟩) (L_l15_few_0 E n n0) n ⟨[(4, (.v (Go.Value.int Go.IntKind.i64 0))), (3, r2.1), (2, r1.1), (0, a0)], r2.2⟩) (K_l15_few_0 E n n0) (X_l15_few_0 E n n0)
theorem c_l15_few_eq : Try.f8.body = some c_l15_few := by kernel_rfl
theorem d_l15_few : drawsOk Try.prog md0 c_l15_few = true := by kernel_rfl
theorem F_l15_few_eq (E : FnA) (n n0 : Nat) (a0 : AV) (bx : Bx) : evK Try.prog md0 E 25 kp_l15_few n n0 c_l15_few ⟨[(0, a0)], bx⟩ (fun s => some (.normal, s)) (fun i s => some (.exit i, s)) = F_l15_few E n n0 a0 bx := by kernel_rfl

theorem E_l15_few (n : Nat) (a0 : AV) (bx : Bx) : evFn cx0 ext0 (n + 1) 8 [a0] bx = fin Try.prog [.tmp 2] (F_l15_few (evFn cx0 ext0 n) n bx.length a0 bx) := by
  rw [evFn_eq2 (cx := cx0) (c := c_l15_few) rfl Try.func8 c_l15_few_eq (of_decide_eq_true (by kernel_rfl)) d_l15_few (of_decide_eq_true (by kernel_rfl))]
  exact congrArg (fin Try.prog [.tmp 2]) (F_l15_few_eq (evFn cx0 ext0 n) n bx.length a0 bx)

/-- scupper/scupperbase.Among -/
def kp_base_Among : Option (List Nat) := some [0, 1, 4, 6]
noncomputable def c_base_Among : Code := Try.f9.body.getD .skip
noncomputable def F_base_Among (_E : FnA) (_n _n0 : Nat) (a0 a1 : AV) (bx : Bx) : Option (Ex × S) :=
  (pv bx (binA Try.prog .lss 3 a1 (.v (Go.Value.int Go.IntKind.i64 1)))).bind fun r1 =>
  condA r1.1 (some (.ret, ⟨[(4, (.v (Go.Value.int Go.IntKind.i64 0))), (6, r1.1), (4, (.v (Go.Value.int Go.IntKind.i64 0))), (0, a0), (1, a1)], r1.2⟩)) ((convA Try.prog r1.2 3 55 a0).bind fun r2 =>
  (convA Try.prog r2.2 3 55 a1).bind fun r3 =>
  (pv r3.2 (binA Try.prog .rem 55 r2.1 r3.1)).bind fun r4 =>
  (convA Try.prog r4.2 55 3 r4.1).bind fun r5 =>
  some (.ret, ⟨[(4, r5.1), (6, r1.1), (4, (.v (Go.Value.int Go.IntKind.i64 0))), (0, a0), (1, a1)], r5.2⟩))
theorem c_base_Among_eq : Try.f9.body = some c_base_Among := by kernel_rfl
theorem d_base_Among : drawsOk Try.prog md0 c_base_Among = true := by kernel_rfl
theorem F_base_Among_eq (E : FnA) (n n0 : Nat) (a0 a1 : AV) (bx : Bx) : evK Try.prog md0 E 13 kp_base_Among n n0 c_base_Among ⟨[(0, a0), (1, a1)], bx⟩ (fun s => some (.normal, s)) (fun i s => some (.exit i, s)) = F_base_Among E n n0 a0 a1 bx := by kernel_rfl

theorem E_base_Among (n : Nat) (a0 a1 : AV) (bx : Bx) : evFn cx0 ext0 (n + 1) 9 [a0, a1] bx = fin Try.prog [.tmp 4] (F_base_Among (evFn cx0 ext0 n) n bx.length a0 a1 bx) := by
  rw [evFn_eq2 (cx := cx0) (c := c_base_Among) rfl Try.func9 c_base_Among_eq (of_decide_eq_true (by kernel_rfl)) d_base_Among (of_decide_eq_true (by kernel_rfl))]
  exact congrArg (fin Try.prog [.tmp 4]) (F_base_Among_eq (evFn cx0 ext0 n) n bx.length a0 a1 bx)

/-- scupper/roll.Now -/
def kp_roll_Now : Option (List Nat) := some [0, 1, 2, 4, 5]
noncomputable def c_roll_Now : Code := Try.f10.body.getD .skip
noncomputable def F_roll_Now (E : FnA) (_n _n0 : Nat) (a0 a1 : AV) (bx : Bx) : Option (Ex × S) :=
  (boxA bx a0).bind fun r1 =>
  (allocA Try.prog r1.2 23).bind fun r2 =>
  (pv r2.2 (loadA Try.prog 23 r2.2 r1.1)).bind fun r3 =>
  (callA E md0 r3.2 27 [r3.1, a1, (.fn 28 [] [])]).bind fun r4 =>
  (pv r4.2 (tupA r4.1 0)).bind fun r5 =>
  (pv r5.2 (tupA r4.1 1)).bind fun r6 =>
  (stA Try.prog 23 r6.2 r2.1 r5.1).bind fun r7 =>
  some (.ret, ⟨[(5, r6.1), (5, (.v (Go.Value.int Go.IntKind.i64 0))), (4, r2.1), (2, r1.1), (0, a0), (1, a1)], r7.2⟩)
theorem c_roll_Now_eq : Try.f10.body = some c_roll_Now := by kernel_rfl
theorem d_roll_Now : drawsOk Try.prog md0 c_roll_Now = true := by kernel_rfl
theorem F_roll_Now_eq (E : FnA) (n n0 : Nat) (a0 a1 : AV) (bx : Bx) : evK Try.prog md0 E 11 kp_roll_Now n n0 c_roll_Now ⟨[(0, a0), (1, a1)], bx⟩ (fun s => some (.normal, s)) (fun i s => some (.exit i, s)) = F_roll_Now E n n0 a0 a1 bx := by kernel_rfl

theorem E_roll_Now (n : Nat) (a0 a1 : AV) (bx : Bx) : evFn cx0 ext0 (n + 1) 10 [a0, a1] bx = fin Try.prog [.cell 4 23, .tmp 5] (F_roll_Now (evFn cx0 ext0 n) n bx.length a0 a1 bx) := by
  rw [evFn_eq2 (cx := cx0) (c := c_roll_Now) rfl Try.func10 c_roll_Now_eq (of_decide_eq_true (by kernel_rfl)) d_roll_Now (of_decide_eq_true (by kernel_rfl))]
  exact congrArg (fin Try.prog [.cell 4 23, .tmp 5]) (F_roll_Now_eq (evFn cx0 ext0 n) n bx.length a0 a1 bx)

/-- scupper/scupperref07.Same -/
def kp_r07_Same : Option (List Nat) := some [0, 1, 2, 3, 4, 5, 6, 9, 17, 19]
noncomputable def c_r07_Same : Code := Try.f11.body.getD .skip
noncomputable def F_r07_Same (E : FnA) (_n _n0 : Nat) (a0 a1 : AV) (bx : Bx) : Option (Ex × S) :=
  (boxA bx a0).bind fun r1 =>
  (boxA r1.2 a1).bind fun r2 =>
  (pv r2.2 (loadA Try.prog 23 r2.2 r1.1)).bind fun r3 =>
  (callA E md0 r3.2 29 [r3.1]).bind fun r4 =>
  (pv r4.2 (loadA Try.prog 23 r4.2 r2.1)).bind fun r5 =>
  (callA E md0 r5.2 29 [r5.1]).bind fun r6 =>
  (pv r6.2 (binA Try.prog .neq 3 r4.1 r6.1)).bind fun r7 =>
  condA r7.1 (some (.ret, ⟨[(4, (.v (Go.Value.bool false))), (17, r7.1), (5, r4.1), (4, (.v (Go.Value.bool false))), (3, r2.1), (2, r1.1), (0, a0), (1, a1)], r7.2⟩)) ((pv r7.2 (binA Try.prog .eql 3 r4.1 (.v (Go.Value.int Go.IntKind.i64 0)))).bind fun r8 =>
  condA r8.1 ((pv r8.2 (loadA Try.prog 23 r8.2 r1.1)).bind fun r9 =>
  (pv r9.2 (loadA Try.prog 23 r9.2 r2.1)).bind fun r10 =>
  (pv r10.2 (binA Try.prog .eql 23 r9.1 r10.1)).bind fun r11 =>
  some (.ret, ⟨[(4, r11.1), (19, r8.1), (17, r7.1), (5, r4.1), (4, (.v (Go.Value.bool false))), (3, r2.1), (2, r1.1), (0, a0), (1, a1)], r11.2⟩)) ((pv r8.2 (loadA Try.prog 23 r8.2 r1.1)).bind fun r12 =>
  (callA E md0 r12.2 12 [r4.1, r12.1]).bind fun r13 =>
  (pv r13.2 (tupA r13.1 0)).bind fun r14 =>
  (pv r14.2 (tupA r13.1 1)).bind fun r15 =>
  (pv r15.2 (tupA r13.1 2)).bind fun r16 =>
  (allocA Try.prog r16.2 38).bind fun r17 =>
  (stA Try.prog 38 r17.2 r17.1 r14.1).bind fun r18 =>
  (pv r18.2 (loadA Try.prog 23 r18.2 r2.1)).bind fun r19 =>
  (callA E md0 r19.2 12 [r4.1, r19.1]).bind fun r20 =>
  (pv r20.2 (tupA r20.1 0)).bind fun r21 =>
  (pv r21.2 (tupA r20.1 1)).bind fun r22 =>
  (pv r22.2 (tupA r20.1 2)).bind fun r23 =>
  (allocA Try.prog r23.2 38).bind fun r24 =>
  (stA Try.prog 38 r24.2 r24.1 r21.1).bind fun r25 =>
  (pv r25.2 (loadA Try.prog 38 r25.2 r17.1)).bind fun r26 =>
  (pv r26.2 (loadA Try.prog 38 r26.2 r24.1)).bind fun r27 =>
  (pv r27.2 (binA Try.prog .eql 38 r26.1 r27.1)).bind fun r28 =>
  some (.ret, ⟨[(4, r28.1), (9, r24.1), (6, r17.1), (19, r8.1), (17, r7.1), (5, r4.1), (4, (.v (Go.Value.bool false))), (3, r2.1), (2, r1.1), (0, a0), (1, a1)], r28.2⟩)))
theorem c_r07_Same_eq : Try.f11.body = some c_r07_Same := by kernel_rfl
theorem d_r07_Same : drawsOk Try.prog md0 c_r07_Same = true := by kernel_rfl
theorem F_r07_Same_eq (E : FnA) (n n0 : Nat) (a0 a1 : AV) (bx : Bx) : evK Try.prog md0 E 40 kp_r07_Same n n0 c_r07_Same ⟨[(0, a0), (1, a1)], bx⟩ (fun s => some (.normal, s)) (fun i s => some (.exit i, s)) = F_r07_Same E n n0 a0 a1 bx := by kernel_rfl

theorem E_r07_Same (n : Nat) (a0 a1 : AV) (bx : Bx) : evFn cx0 ext0 (n + 1) 11 [a0, a1] bx = fin Try.prog [.tmp 4] (F_r07_Same (evFn cx0 ext0 n) n bx.length a0 a1 bx) := by
  rw [evFn_eq2 (cx := cx0) (c := c_r07_Same) rfl Try.func11 c_r07_Same_eq (of_decide_eq_true (by kernel_rfl)) d_r07_Same (of_decide_eq_true (by kernel_rfl))]
  exact congrArg (fin Try.prog [.tmp 4]) (F_r07_Same_eq (evFn cx0 ext0 n) n bx.length a0 a1 bx)

/-- scupper/scupperref07.Get -/
def kp_r07_Get : Option (List Nat) := some [0, 1, 3, 4, 5, 6, 7, 9, 11, 12, 15, 45, 49]
noncomputable def c_r07_Get : Code := Try.f12.body.getD .skip
noncomputable def L_r07_Get_0 (_E : FnA) (_n _n0 : Nat) (s : S) : Option (Ex × S) :=
  (pv s.bx (binA Try.prog .lss 3 (get s.env 12) (.v (Go.Value.int Go.IntKind.i64 54)))).bind fun r42 =>
  condA r42.1 ((pv r42.2 (indexAddrA Try.prog 23 (get (prune kp_r07_Get s.env) 3) (get (prune kp_r07_Get s.env) 12))).bind fun r43 =>
  (pv r43.2 (loadA Try.prog 5 r43.2 r43.1)).bind fun r44 =>
  (pv r44.2 (indexAddrA Try.prog 38 (get (prune kp_r07_Get s.env) 11) (get (prune kp_r07_Get s.env) 12))).bind fun r45 =>
  (stA Try.prog 5 r45.2 r45.1 r44.1).bind fun r46 =>
  (pv r46.2 (binA Try.prog .add 3 (get (prune kp_r07_Get (prune kp_r07_Get s.env)) 12) (.v (Go.Value.int Go.IntKind.i64 1)))).bind fun r47 =>
  some (.normal, ⟨((12, r47.1) :: (49, r42.1) :: (prune kp_r07_Get (prune kp_r07_Get (prune kp_r07_Get s.env)))), r47.2⟩)) (some (.exit 0, ⟨((49, r42.1) :: (prune kp_r07_Get s.env)), r42.2⟩))
noncomputable def B_r07_Get_0 (_E : FnA) (_n _n0 : Nat) (x12 x11 x45 x9 x7 x15 x6 x5 x4 x3 x0 x1 : AV) (y : Bx) : Option (Ex × S) :=
  (pv y (binA Try.prog .lss 3 x12 (.v (Go.Value.int Go.IntKind.i64 54)))).bind fun r36 =>
  condA r36.1 ((pv r36.2 (indexAddrA Try.prog 23 x3 x12)).bind fun r37 =>
  (pv r37.2 (loadA Try.prog 5 r37.2 r37.1)).bind fun r38 =>
  (pv r38.2 (indexAddrA Try.prog 38 x11 x12)).bind fun r39 =>
  (stA Try.prog 5 r39.2 r39.1 r38.1).bind fun r40 =>
  (pv r40.2 (binA Try.prog .add 3 x12 (.v (Go.Value.int Go.IntKind.i64 1)))).bind fun r41 =>
  some (.normal, ⟨[(12, r41.1), (49, r36.1), (12, x12), (11, x11), (45, x45), (9, x9), (7, x7), (15, x15), (6, x6), (5, x5), (4, x4), (3, x3), (0, x0), (1, x1)], r41.2⟩)) (some (.exit 0, ⟨[(49, r36.1), (12, x12), (11, x11), (45, x45), (9, x9), (7, x7), (15, x15), (6, x6), (5, x5), (4, x4), (3, x3), (0, x0), (1, x1)], r36.2⟩))
theorem L_r07_Get_0_lit {E : FnA} {n n0 : Nat} {x12 x11 x45 x9 x7 x15 x6 x5 x4 x3 x0 x1 : AV} {y : Bx} {Q : Ex → S → Prop} (h : Ends (B_r07_Get_0 E n n0 x12 x11 x45 x9 x7 x15 x6 x5 x4 x3 x0 x1 y) Q) : Ends (L_r07_Get_0 E n n0 ⟨[(12, x12), (11, x11), (45, x45), (9, x9), (7, x7), (15, x15), (6, x6), (5, x5), (4, x4), (3, x3), (0, x0), (1, x1)], y⟩) Q := by
  rw [show L_r07_Get_0 E n n0 ⟨[(12, x12), (11, x11), (45, x45), (9, x9), (7, x7), (15, x15), (6, x6), (5, x5), (4, x4), (3, x3), (0, x0), (1, x1)], y⟩ = B_r07_Get_0 E n n0 x12 x11 x45 x9 x7 x15 x6 x5 x4 x3 x0 x1 y by kernel_rfl]
  exact h
noncomputable def K_r07_Get_0 (_E : FnA) (_n _n0 : Nat) (t : S) : Option (Ex × S) :=
  (pv t.bx (loadA Try.prog 38 t.bx (get t.env 11))).bind fun r50 =>
  (stA Try.prog 38 r50.2 (get t.env 4) r50.1).bind fun r51 =>
  some (.ret, ⟨((6, (.v (Go.Value.int Go.IntKind.i64 0))) :: (5, (get t.env 7)) :: (prune kp_r07_Get t.env)), r51.2⟩)
noncomputable def X_r07_Get_0 (_E : FnA) (_n _n0 : Nat) (i : Nat) (t : S) : Option (Ex × S) :=
  if i = 0 then (pv t.bx (loadA Try.prog 38 t.bx (get t.env 11))).bind fun r48 =>
  (stA Try.prog 38 r48.2 (get t.env 4) r48.1).bind fun r49 =>
  some (.ret, ⟨((6, (.v (Go.Value.int Go.IntKind.i64 0))) :: (5, (get t.env 7)) :: (prune kp_r07_Get t.env)), r49.2⟩) else some (.exit i, ⟨t.env, t.bx⟩)
noncomputable def X_r07_Get_0_0 (_E : FnA) (_n _n0 : Nat) (x49 x12 x11 x45 x9 x7 x15 x6 x5 x4 x3 x0 x1 : AV) (y : Bx) : Option (Ex × S) :=
  (pv y (loadA Try.prog 38 y x11)).bind fun r52 =>
  (stA Try.prog 38 r52.2 x4 r52.1).bind fun r53 =>
  some (.ret, ⟨[(6, (.v (Go.Value.int Go.IntKind.i64 0))), (5, x7), (49, x49), (12, x12), (11, x11), (45, x45), (9, x9), (7, x7), (15, x15), (6, x6), (5, x5), (4, x4), (3, x3), (0, x0), (1, x1)], r53.2⟩)
theorem X_r07_Get_0_0_lit {E : FnA} {n n0 : Nat} {x49 x12 x11 x45 x9 x7 x15 x6 x5 x4 x3 x0 x1 : AV} {y : Bx} {Q : Ex → S → Prop} (h : Ends (X_r07_Get_0_0 E n n0 x49 x12 x11 x45 x9 x7 x15 x6 x5 x4 x3 x0 x1 y) Q) : Ends (X_r07_Get_0 E n n0 0 ⟨[(49, x49), (12, x12), (11, x11), (45, x45), (9, x9), (7, x7), (15, x15), (6, x6), (5, x5), (4, x4), (3, x3), (0, x0), (1, x1)], y⟩) Q := by
  rw [show X_r07_Get_0 E n n0 0 ⟨[(49, x49), (12, x12), (11, x11), (45, x45), (9, x9), (7, x7), (15, x15), (6, x6), (5, x5), (4, x4), (3, x3), (0, x0), (1, x1)], y⟩ = X_r07_Get_0_0 E n n0 x49 x12 x11 x45 x9 x7 x15 x6 x5 x4 x3 x0 x1 y by kernel_rfl]
  exact h
noncomputable def F_r07_Get (E : FnA) (n n0 : Nat) (a0 a1 : AV) (bx : Bx) : Option (Ex × S) :=
  (boxA bx a1).bind fun r1 =>
  (allocA Try.prog r1.2 38).bind fun r2 =>
  (callA E md0 r2.2 30 [a0]).bind fun r3 =>
  (pv r3.2 (unA .not r3.1)).bind fun r4 =>
  condA r4.1 ((pv r4.2 (buildA Try.prog 38 [])).bind fun r5 =>
  (stA Try.prog 38 r5.2 r2.1 r5.1).bind fun r6 =>
  some (.ret, ⟨[(6, (.v (Go.Value.int Go.IntKind.i64 2))), (5, (.v (Go.Value.int Go.IntKind.u32 0))), (15, r4.1), (6, (.v (Go.Value.int Go.IntKind.i64 0))), (5, (.v (Go.Value.int Go.IntKind.u32 0))), (4, r2.1), (3, r1.1), (0, a0), (1, a1)], r6.2⟩)) ((pv r4.2 (sliceA Try.prog r4.2 23 r1.1 none none none)).bind fun r7 =>
  (callA E md0 r7.2 31 [r7.1, (.v (Go.Value.int Go.IntKind.i64 56))]).bind fun r8 =>
  (pv r8.2 (tupA r8.1 0)).bind fun r9 =>
  (pv r9.2 (tupA r8.1 1)).bind fun r10 =>
  (pv r10.2 (sliceA Try.prog r10.2 23 r1.1 none none none)).bind fun r11 =>
  (callA E md0 r11.2 31 [r11.1, (.v (Go.Value.int Go.IntKind.i64 60))]).bind fun r12 =>
  (pv r12.2 (tupA r12.1 0)).bind fun r13 =>
  (pv r13.2 (tupA r12.1 1)).bind fun r14 =>
  (pv r14.2 (indexAddrA Try.prog 23 r1.1 (.v (Go.Value.int Go.IntKind.i64 54)))).bind fun r15 =>
  (pv r15.2 (loadA Try.prog 5 r15.2 r15.1)).bind fun r16 =>
  (convA Try.prog r16.2 5 3 r16.1).bind fun r17 =>
  (pv r17.2 (binA Try.prog .neq 3 r17.1 a0)).bind fun r18 =>
  (gsel false r18.2 (pv r18.2 (indexAddrA Try.prog 23 r1.1 (.v (Go.Value.int Go.IntKind.i64 55)))) r18.1).bind fun r19 =>
  (gsel false r19.2 (pv r19.2 (loadA Try.prog 5 r19.2 r19.1)) r18.1).bind fun r20 =>
  (gsel false r20.2 (convA Try.prog r20.2 5 3 r20.1) r18.1).bind fun r21 =>
  (gsel false r21.2 (some (a0, r21.2)) r18.1).bind fun r22 =>
  (gsel false r22.2 (pv r22.2 (binA Try.prog .sub 3 (.v (Go.Value.int Go.IntKind.i64 255)) r22.1)) r18.1).bind fun r23 =>
  (gsel false r23.2 (pv r23.2 (binA Try.prog .neq 3 r21.1 r23.1)) r18.1).bind fun r24 =>
  (pv r24.2 (pickA r18.1 (.v (Go.Value.bool true)) r24.1)).bind fun r25 =>
  (gsel false r25.2 (some (r13.1, r25.2)) r25.1).bind fun r26 =>
  (gsel false r26.2 (pv r26.2 (sliceA Try.prog r26.2 23 r1.1 none (some (.v (Go.Value.int Go.IntKind.i64 60))) none)) r25.1).bind fun r27 =>
  (gsel false r27.2 (callA E md0 r27.2 32 [r27.1]) r25.1).bind fun r28 =>
  (gsel false r28.2 (pv r28.2 (binA Try.prog .neq 39 r26.1 r28.1)) r25.1).bind fun r29 =>
  (pv r29.2 (pickA r25.1 (.v (Go.Value.bool true)) r29.1)).bind fun r30 =>
  condA r30.1 ((pv r30.2 (buildA Try.prog 38 [])).bind fun r31 =>
  (stA Try.prog 38 r31.2 r2.1 r31.1).bind fun r32 =>
  some (.ret, ⟨[(6, (.v (Go.Value.int Go.IntKind.i64 21))), (5, (.v (Go.Value.int Go.IntKind.u32 0))), (45, r30.1), (9, r13.1), (7, r9.1), (15, r4.1), (6, (.v (Go.Value.int Go.IntKind.i64 0))), (5, (.v (Go.Value.int Go.IntKind.u32 0))), (4, r2.1), (3, r1.1), (0, a0), (1, a1)], r32.2⟩)) ((pv r30.2 (buildA Try.prog 38 [])).bind fun r33 =>
  (allocA Try.prog r33.2 38).bind fun r34 =>
  (stA Try.prog 38 r34.2 r34.1 r33.1).bind fun r35 =>
  exitA (iter (head ⟨[(12, (.v (Go.Value.int Go.IntKind.i64 0))), (11, r34.1), (45, r30.1), (9, r13.1), (7, r9.1), (15, r4.1), (6, (.v (Go.Value.int Go.IntKind.i64 0))), (5, (.v (Go.Value.int Go.IntKind.u32 0))), (4, r2.1), (3, r1.1), (0, a0), (1, a1)], r35.2⟩) (L_r07_Get_0 E n n0) n ⟨[(12, (.v (Go.Value.int Go.IntKind.i64 0))), (11, r34.1), (45, r30.1), (9, r13.1), (7, r9.1), (15, r4.1), (6, (.v (Go.Value.int Go.IntKind.i64 0))), (5, (.v (Go.Value.int Go.IntKind.u32 0))), (4, r2.1), (3, r1.1), (0, a0), (1, a1)], r35.2⟩) (K_r07_Get_0 E n n0) (X_r07_Get_0 E n n0)))
theorem c_r07_Get_eq : Try.f12.body = some c_r07_Get := by kernel_rfl
theorem d_r07_Get : drawsOk Try.prog md0 c_r07_Get = true := by kernel_rfl
theorem F_r07_Get_eq (E : FnA) (n n0 : Nat) (a0 a1 : AV) (bx : Bx) : evK Try.prog md0 E 59 kp_r07_Get n n0 c_r07_Get ⟨[(0, a0), (1, a1)], bx⟩ (fun s => some (.normal, s)) (fun i s => some (.exit i, s)) = F_r07_Get E n n0 a0 a1 bx := by kernel_rfl

theorem E_r07_Get (n : Nat) (a0 a1 : AV) (bx : Bx) : evFn cx0 ext0 (n + 1) 12 [a0, a1] bx = fin Try.prog [.cell 4 38, .tmp 5, .tmp 6] (F_r07_Get (evFn cx0 ext0 n) n bx.length a0 a1 bx) := by
  rw [evFn_eq2 (cx := cx0) (c := c_r07_Get) rfl Try.func12 c_r07_Get_eq (of_decide_eq_true (by kernel_rfl)) d_r07_Get (of_decide_eq_true (by kernel_rfl))]
  exact congrArg (fin Try.prog [.cell 4 38, .tmp 5, .tmp 6]) (F_r07_Get_eq (evFn cx0 ext0 n) n bx.length a0 a1 bx)

/-- scupper/roll.Turn -/
def kp_roll_Turn : Option (List Nat) := some [0, 1, 2, 4]
noncomputable def c_roll_Turn : Code := Try.f13.body.getD .skip
noncomputable def F_roll_Turn (E : FnA) (_n _n0 : Nat) (a0 : AV) (bx : Bx) : Option (Ex × S) :=
  (boxA bx a0).bind fun r1 =>
  (allocA Try.prog r1.2 38).bind fun r2 =>
  (pv r2.2 (loadA Try.prog 23 r2.2 r1.1)).bind fun r3 =>
  (callA E md0 r3.2 34 [r3.1]).bind fun r4 =>
  (pv r4.2 (loadA Try.prog 23 r4.2 r1.1)).bind fun r5 =>
  (callA E md0 r5.2 33 [r4.1, r5.1]).bind fun r6 =>
  (pv r6.2 (tupA r6.1 0)).bind fun r7 =>
  (pv r7.2 (tupA r6.1 1)).bind fun r8 =>
  (pv r8.2 (tupA r6.1 2)).bind fun r9 =>
  (stA Try.prog 38 r9.2 r2.1 r7.1).bind fun r10 =>
  (pv r10.2 (binA Try.prog .add 39 r8.1 (.v (Go.Value.int Go.IntKind.u32 1)))).bind fun r11 =>
  some (.ret, ⟨[(2, r11.1), (4, r8.1), (2, (.v (Go.Value.int Go.IntKind.u32 0))), (1, r1.1), (0, a0)], r11.2⟩)
theorem c_roll_Turn_eq : Try.f13.body = some c_roll_Turn := by kernel_rfl
theorem d_roll_Turn : drawsOk Try.prog md0 c_roll_Turn = true := by kernel_rfl
theorem F_roll_Turn_eq (E : FnA) (n n0 : Nat) (a0 : AV) (bx : Bx) : evK Try.prog md0 E 16 kp_roll_Turn n n0 c_roll_Turn ⟨[(0, a0)], bx⟩ (fun s => some (.normal, s)) (fun i s => some (.exit i, s)) = F_roll_Turn E n n0 a0 bx := by kernel_rfl

theorem E_roll_Turn (n : Nat) (a0 : AV) (bx : Bx) : evFn cx0 ext0 (n + 1) 13 [a0] bx = fin Try.prog [.tmp 2] (F_roll_Turn (evFn cx0 ext0 n) n bx.length a0 bx) := by
  rw [evFn_eq2 (cx := cx0) (c := c_roll_Turn) rfl Try.func13 c_roll_Turn_eq (of_decide_eq_true (by kernel_rfl)) d_roll_Turn (of_decide_eq_true (by kernel_rfl))]
  exact congrArg (fin Try.prog [.tmp 2]) (F_roll_Turn_eq (evFn cx0 ext0 n) n bx.length a0 bx)

/-- scupper/scupperref15.Turn -/
def kp_r15_Turn : Option (List Nat) := some [0, 1, 2, 3, 5, 10]
noncomputable def c_r15_Turn : Code := Try.f14.body.getD .skip
noncomputable def F_r15_Turn (E : FnA) (_n _n0 : Nat) (a0 : AV) (bx : Bx) : Option (Ex × S) :=
  (boxA bx a0).bind fun r1 =>
  (pv r1.2 (loadA Try.prog 23 r1.2 r1.1)).bind fun r2 =>
  (callA E md0 r2.2 29 [r2.1]).bind fun r3 =>
  (pv r3.2 (binA Try.prog .eql 3 r3.1 (.v (Go.Value.int Go.IntKind.i64 0)))).bind fun r4 =>
  condA r4.1 (some (.ret, ⟨[(2, (.v (Go.Value.int Go.IntKind.u32 1))), (10, r4.1), (3, r3.1), (2, (.v (Go.Value.int Go.IntKind.u32 0))), (1, r1.1), (0, a0)], r4.2⟩)) ((pv r4.2 (loadA Try.prog 23 r4.2 r1.1)).bind fun r5 =>
  (callA E md0 r5.2 12 [r3.1, r5.1]).bind fun r6 =>
  (pv r6.2 (tupA r6.1 0)).bind fun r7 =>
  (pv r7.2 (tupA r6.1 1)).bind fun r8 =>
  (pv r8.2 (tupA r6.1 2)).bind fun r9 =>
  (allocA Try.prog r9.2 38).bind fun r10 =>
  (stA Try.prog 38 r10.2 r10.1 r7.1).bind fun r11 =>
  (pv r11.2 (binA Try.prog .add 39 r8.1 (.v (Go.Value.int Go.IntKind.u32 1)))).bind fun r12 =>
  some (.ret, ⟨[(2, r12.1), (5, r8.1), (10, r4.1), (3, r3.1), (2, (.v (Go.Value.int Go.IntKind.u32 0))), (1, r1.1), (0, a0)], r12.2⟩))
theorem c_r15_Turn_eq : Try.f14.body = some c_r15_Turn := by kernel_rfl
theorem d_r15_Turn : drawsOk Try.prog md0 c_r15_Turn = true := by kernel_rfl
theorem F_r15_Turn_eq (E : FnA) (n n0 : Nat) (a0 : AV) (bx : Bx) : evK Try.prog md0 E 20 kp_r15_Turn n n0 c_r15_Turn ⟨[(0, a0)], bx⟩ (fun s => some (.normal, s)) (fun i s => some (.exit i, s)) = F_r15_Turn E n n0 a0 bx := by kernel_rfl

theorem E_r15_Turn (n : Nat) (a0 : AV) (bx : Bx) : evFn cx0 ext0 (n + 1) 14 [a0] bx = fin Try.prog [.tmp 2] (F_r15_Turn (evFn cx0 ext0 n) n bx.length a0 bx) := by
  rw [evFn_eq2 (cx := cx0) (c := c_r15_Turn) rfl Try.func14 c_r15_Turn_eq (of_decide_eq_true (by kernel_rfl)) d_r15_Turn (of_decide_eq_true (by kernel_rfl))]
  exact congrArg (fin Try.prog [.tmp 2]) (F_r15_Turn_eq (evFn cx0 ext0 n) n bx.length a0 bx)

/-- scupper/roll.Load -/
def kp_roll_Load : Option (List Nat) := some [0, 1, 2, 4, 5]
noncomputable def c_roll_Load : Code := Try.f15.body.getD .skip
noncomputable def F_roll_Load (E : FnA) (_n _n0 : Nat) (a0 a1 : AV) (bx : Bx) : Option (Ex × S) :=
  (boxA bx a0).bind fun r1 =>
  (allocA Try.prog r1.2 38).bind fun r2 =>
  (pv r2.2 (loadA Try.prog 23 r2.2 r1.1)).bind fun r3 =>
  (callA E md0 r3.2 33 [a1, r3.1]).bind fun r4 =>
  (pv r4.2 (tupA r4.1 0)).bind fun r5 =>
  (pv r5.2 (tupA r4.1 1)).bind fun r6 =>
  (pv r6.2 (tupA r4.1 2)).bind fun r7 =>
  (allocA Try.prog r7.2 38).bind fun r8 =>
  (stA Try.prog 38 r8.2 r8.1 r5.1).bind fun r9 =>
  (pv r9.2 (loadA Try.prog 38 r9.2 r8.1)).bind fun r10 =>
  (stA Try.prog 38 r10.2 r2.1 r10.1).bind fun r11 =>
  some (.ret, ⟨[(5, r8.1), (4, r2.1), (2, r1.1), (0, a0), (1, a1)], r11.2⟩)
theorem c_roll_Load_eq : Try.f15.body = some c_roll_Load := by kernel_rfl
theorem d_roll_Load : drawsOk Try.prog md0 c_roll_Load = true := by kernel_rfl
theorem F_roll_Load_eq (E : FnA) (n n0 : Nat) (a0 a1 : AV) (bx : Bx) : evK Try.prog md0 E 16 kp_roll_Load n n0 c_roll_Load ⟨[(0, a0), (1, a1)], bx⟩ (fun s => some (.normal, s)) (fun i s => some (.exit i, s)) = F_roll_Load E n n0 a0 a1 bx := by kernel_rfl

theorem E_roll_Load (n : Nat) (a0 a1 : AV) (bx : Bx) : evFn cx0 ext0 (n + 1) 15 [a0, a1] bx = fin Try.prog [.cell 4 38] (F_roll_Load (evFn cx0 ext0 n) n bx.length a0 a1 bx) := by
  rw [evFn_eq2 (cx := cx0) (c := c_roll_Load) rfl Try.func15 c_roll_Load_eq (of_decide_eq_true (by kernel_rfl)) d_roll_Load (of_decide_eq_true (by kernel_rfl))]
  exact congrArg (fin Try.prog [.cell 4 38]) (F_roll_Load_eq (evFn cx0 ext0 n) n bx.length a0 a1 bx)

/-- scupper/scupperref15.Load -/
def kp_r15_Load : Option (List Nat) := some [0, 1, 2, 4, 5]
noncomputable def c_r15_Load : Code := Try.f16.body.getD .skip
noncomputable def F_r15_Load (E : FnA) (_n _n0 : Nat) (a0 a1 : AV) (bx : Bx) : Option (Ex × S) :=
  (boxA bx a0).bind fun r1 =>
  (allocA Try.prog r1.2 38).bind fun r2 =>
  (pv r2.2 (loadA Try.prog 23 r2.2 r1.1)).bind fun r3 =>
  (callA E md0 r3.2 12 [a1, r3.1]).bind fun r4 =>
  (pv r4.2 (tupA r4.1 0)).bind fun r5 =>
  (pv r5.2 (tupA r4.1 1)).bind fun r6 =>
  (pv r6.2 (tupA r4.1 2)).bind fun r7 =>
  (allocA Try.prog r7.2 38).bind fun r8 =>
  (stA Try.prog 38 r8.2 r8.1 r5.1).bind fun r9 =>
  (pv r9.2 (loadA Try.prog 38 r9.2 r8.1)).bind fun r10 =>
  (stA Try.prog 38 r10.2 r2.1 r10.1).bind fun r11 =>
  some (.ret, ⟨[(5, r8.1), (4, r2.1), (2, r1.1), (0, a0), (1, a1)], r11.2⟩)
theorem c_r15_Load_eq : Try.f16.body = some c_r15_Load := by kernel_rfl
theorem d_r15_Load : drawsOk Try.prog md0 c_r15_Load = true := by kernel_rfl
theorem F_r15_Load_eq (E : FnA) (n n0 : Nat) (a0 a1 : AV) (bx : Bx) : evK Try.prog md0 E 16 kp_r15_Load n n0 c_r15_Load ⟨[(0, a0), (1, a1)], bx⟩ (fun s => some (.normal, s)) (fun i s => some (.exit i, s)) = F_r15_Load E n n0 a0 a1 bx := by kernel_rfl

theorem E_r15_Load (n : Nat) (a0 a1 : AV) (bx : Bx) : evFn cx0 ext0 (n + 1) 16 [a0, a1] bx = fin Try.prog [.cell 4 38] (F_r15_Load (evFn cx0 ext0 n) n bx.length a0 a1 bx) := by
  rw [evFn_eq2 (cx := cx0) (c := c_r15_Load) rfl Try.func16 c_r15_Load_eq (of_decide_eq_true (by kernel_rfl)) d_r15_Load (of_decide_eq_true (by kernel_rfl))]
  exact congrArg (fin Try.prog [.cell 4 38]) (F_r15_Load_eq (evFn cx0 ext0 n) n bx.length a0 a1 bx)

/-- scupper/scupperref15.Now -/
def kp_r15_Now : Option (List Nat) := some [0, 1, 2, 4, 5, 6, 7, 8, 9, 14, 29]
noncomputable def c_r15_Now : Code := Try.f17.body.getD .skip
noncomputable def L_r15_Now_0 (E : FnA) (_n _n0 : Nat) (s : S) : Option (Ex × S) :=
  (pv s.bx (lenA Try.prog 24 (get s.env 1))).bind fun r24 =>
  (pv r24.2 (binA Try.prog .lss 3 (get s.env 7) r24.1)).bind fun r25 =>
  condA r25.1 ((allocA Try.prog r25.2 23).bind fun r26 =>
  (pv r26.2 (loadA Try.prog 23 r26.2 (get (prune kp_r15_Now s.env) 6))).bind fun r27 =>
  (pv r27.2 (indexAddrA Try.prog 24 (get (prune kp_r15_Now s.env) 1) (get (prune kp_r15_Now s.env) 7))).bind fun r28 =>
  (pv r28.2 (loadA Try.prog 34 r28.2 r28.1)).bind fun r29 =>
  (pv r29.2 (loadA Try.prog 23 r29.2 (get (prune kp_r15_Now s.env) 2))).bind fun r30 =>
  (callA E md0 r30.2 14 [r30.1]).bind fun r31 =>
  (callA E md0 r31.2 35 [r27.1, r29.1, r31.1]).bind fun r32 =>
  (pv r32.2 (tupA r32.1 0)).bind fun r33 =>
  (pv r33.2 (tupA r32.1 1)).bind fun r34 =>
  (stA Try.prog 23 r34.2 r26.1 r33.1).bind fun r35 =>
  (pv r35.2 (binA Try.prog .neq 28 r34.1 (.v (Go.Value.int Go.IntKind.i64 0)))).bind fun r36 =>
  condA r36.1 ((pv r36.2 (loadA Try.prog 23 r36.2 (get (prune kp_r15_Now (prune kp_r15_Now (prune kp_r15_Now s.env))) 2))).bind fun r37 =>
  (stA Try.prog 23 r37.2 (get (prune kp_r15_Now (prune kp_r15_Now (prune kp_r15_Now s.env))) 4) r37.1).bind fun r38 =>
  some (.ret, ⟨((5, r34.1) :: (29, r36.1) :: (9, r34.1) :: (8, r26.1) :: (14, r25.1) :: (prune kp_r15_Now (prune kp_r15_Now (prune kp_r15_Now (prune kp_r15_Now s.env))))), r38.2⟩)) ((pv r36.2 (loadA Try.prog 23 r36.2 r26.1)).bind fun r39 =>
  (stA Try.prog 23 r39.2 (get (prune kp_r15_Now (prune kp_r15_Now (prune kp_r15_Now s.env))) 6) r39.1).bind fun r40 =>
  (pv r40.2 (binA Try.prog .add 3 (get (prune kp_r15_Now (prune kp_r15_Now (prune kp_r15_Now (prune kp_r15_Now s.env)))) 7) (.v (Go.Value.int Go.IntKind.i64 1)))).bind fun r41 =>
  some (.normal, ⟨((7, r41.1) :: (29, r36.1) :: (9, r34.1) :: (8, r26.1) :: (14, r25.1) :: (prune kp_r15_Now (prune kp_r15_Now (prune kp_r15_Now (prune kp_r15_Now (prune kp_r15_Now s.env)))))), r41.2⟩))) (some (.exit 0, ⟨((14, r25.1) :: (prune kp_r15_Now s.env)), r25.2⟩))
noncomputable def B_r15_Now_0 (E : FnA) (_n _n0 : Nat) (x7 x6 x5 x4 x2 x0 x1 : AV) (y : Bx) : Option (Ex × S) :=
  (pv y (lenA Try.prog 24 x1)).bind fun r6 =>
  (pv r6.2 (binA Try.prog .lss 3 x7 r6.1)).bind fun r7 =>
  condA r7.1 ((allocA Try.prog r7.2 23).bind fun r8 =>
  (pv r8.2 (loadA Try.prog 23 r8.2 x6)).bind fun r9 =>
  (pv r9.2 (indexAddrA Try.prog 24 x1 x7)).bind fun r10 =>
  (pv r10.2 (loadA Try.prog 34 r10.2 r10.1)).bind fun r11 =>
  (pv r11.2 (loadA Try.prog 23 r11.2 x2)).bind fun r12 =>
  (callA E md0 r12.2 14 [r12.1]).bind fun r13 =>
  (callA E md0 r13.2 35 [r9.1, r11.1, r13.1]).bind fun r14 =>
  (pv r14.2 (tupA r14.1 0)).bind fun r15 =>
  (pv r15.2 (tupA r14.1 1)).bind fun r16 =>
  (stA Try.prog 23 r16.2 r8.1 r15.1).bind fun r17 =>
  (pv r17.2 (binA Try.prog .neq 28 r16.1 (.v (Go.Value.int Go.IntKind.i64 0)))).bind fun r18 =>
  condA r18.1 ((pv r18.2 (loadA Try.prog 23 r18.2 x2)).bind fun r19 =>
  (stA Try.prog 23 r19.2 x4 r19.1).bind fun r20 =>
  some (.ret, ⟨[(5, r16.1), (29, r18.1), (9, r16.1), (8, r8.1), (14, r7.1), (7, x7), (6, x6), (5, x5), (4, x4), (2, x2), (0, x0), (1, x1)], r20.2⟩)) ((pv r18.2 (loadA Try.prog 23 r18.2 r8.1)).bind fun r21 =>
  (stA Try.prog 23 r21.2 x6 r21.1).bind fun r22 =>
  (pv r22.2 (binA Try.prog .add 3 x7 (.v (Go.Value.int Go.IntKind.i64 1)))).bind fun r23 =>
  some (.normal, ⟨[(7, r23.1), (29, r18.1), (9, r16.1), (8, r8.1), (14, r7.1), (7, x7), (6, x6), (5, x5), (4, x4), (2, x2), (0, x0), (1, x1)], r23.2⟩))) (some (.exit 0, ⟨[(14, r7.1), (7, x7), (6, x6), (5, x5), (4, x4), (2, x2), (0, x0), (1, x1)], r7.2⟩))
theorem L_r15_Now_0_lit {E : FnA} {n n0 : Nat} {x7 x6 x5 x4 x2 x0 x1 : AV} {y : Bx} {Q : Ex → S → Prop} (h : Ends (B_r15_Now_0 E n n0 x7 x6 x5 x4 x2 x0 x1 y) Q) : Ends (L_r15_Now_0 E n n0 ⟨[(7, x7), (6, x6), (5, x5), (4, x4), (2, x2), (0, x0), (1, x1)], y⟩) Q := by
  rw [show L_r15_Now_0 E n n0 ⟨[(7, x7), (6, x6), (5, x5), (4, x4), (2, x2), (0, x0), (1, x1)], y⟩ = B_r15_Now_0 E n n0 x7 x6 x5 x4 x2 x0 x1 y by kernel_rfl]
  exact h
noncomputable def K_r15_Now_0 (_E : FnA) (_n _n0 : Nat) (t : S) : Option (Ex × S) :=
  (pv t.bx (loadA Try.prog 23 t.bx (get t.env 6))).bind fun r44 =>
  (stA Try.prog 23 r44.2 (get t.env 4) r44.1).bind fun r45 =>
  some (.ret, ⟨((5, (.v (Go.Value.int Go.IntKind.i64 0))) :: (prune kp_r15_Now t.env)), r45.2⟩)
noncomputable def X_r15_Now_0 (_E : FnA) (_n _n0 : Nat) (i : Nat) (t : S) : Option (Ex × S) :=
  if i = 0 then (pv t.bx (loadA Try.prog 23 t.bx (get t.env 6))).bind fun r42 =>
  (stA Try.prog 23 r42.2 (get t.env 4) r42.1).bind fun r43 =>
  some (.ret, ⟨((5, (.v (Go.Value.int Go.IntKind.i64 0))) :: (prune kp_r15_Now t.env)), r43.2⟩) else some (.exit i, ⟨t.env, t.bx⟩)
noncomputable def X_r15_Now_0_0 (_E : FnA) (_n _n0 : Nat) (x14 x7 x6 x5 x4 x2 x0 x1 : AV) (y : Bx) : Option (Ex × S) :=
  (pv y (loadA Try.prog 23 y x6)).bind fun r46 =>
  (stA Try.prog 23 r46.2 x4 r46.1).bind fun r47 =>
  some (.ret, ⟨[(5, (.v (Go.Value.int Go.IntKind.i64 0))), (14, x14), (7, x7), (6, x6), (5, x5), (4, x4), (2, x2), (0, x0), (1, x1)], r47.2⟩)
theorem X_r15_Now_0_0_lit {E : FnA} {n n0 : Nat} {x14 x7 x6 x5 x4 x2 x0 x1 : AV} {y : Bx} {Q : Ex → S → Prop} (h : Ends (X_r15_Now_0_0 E n n0 x14 x7 x6 x5 x4 x2 x0 x1 y) Q) : Ends (X_r15_Now_0 E n n0 0 ⟨[(14, x14), (7, x7), (6, x6), (5, x5), (4, x4), (2, x2), (0, x0), (1, x1)], y⟩) Q := by
  rw [show X_r15_Now_0 E n n0 0 ⟨[(14, x14), (7, x7), (6, x6), (5, x5), (4, x4), (2, x2), (0, x0), (1, x1)], y⟩ = X_r15_Now_0_0 E n n0 x14 x7 x6 x5 x4 x2 x0 x1 y by kernel_rfl]
  exact h
noncomputable def F_r15_Now (E : FnA) (n n0 : Nat) (a0 a1 : AV) (bx : Bx) : Option (Ex × S) :=
  (boxA bx a0).bind fun r1 =>
  (allocA Try.prog r1.2 23).bind fun r2 =>
  (pv r2.2 (loadA Try.prog 23 r2.2 r1.1)).bind fun r3 =>
  (allocA Try.prog r3.2 23).bind fun r4 =>
  (stA Try.prog 23 r4.2 r4.1 r3.1).bind fun r5 =>
  exitA (iter (head ⟨[(7, (.v (Go.Value.int Go.IntKind.i64 0))), (6, r4.1), (5, (.v (Go.Value.int Go.IntKind.i64 0))), (4, r2.1), (2, r1.1), (0, a0), (1, a1)], r5.2⟩) (L_r15_Now_0 E n n0) n ⟨[(7, (.v (Go.Value.int Go.IntKind.i64 0))), (6, r4.1), (5, (.v (Go.Value.int Go.IntKind.i64 0))), (4, r2.1), (2, r1.1), (0, a0), (1, a1)], r5.2⟩) (K_r15_Now_0 E n n0) (X_r15_Now_0 E n n0)
theorem c_r15_Now_eq : Try.f17.body = some c_r15_Now := by kernel_rfl
theorem d_r15_Now : drawsOk Try.prog md0 c_r15_Now = true := by kernel_rfl
theorem F_r15_Now_eq (E : FnA) (n n0 : Nat) (a0 a1 : AV) (bx : Bx) : evK Try.prog md0 E 34 kp_r15_Now n n0 c_r15_Now ⟨[(0, a0), (1, a1)], bx⟩ (fun s => some (.normal, s)) (fun i s => some (.exit i, s)) = F_r15_Now E n n0 a0 a1 bx := by kernel_rfl

theorem E_r15_Now (n : Nat) (a0 a1 : AV) (bx : Bx) : evFn cx0 ext0 (n + 1) 17 [a0, a1] bx = fin Try.prog [.cell 4 23, .tmp 5] (F_r15_Now (evFn cx0 ext0 n) n bx.length a0 a1 bx) := by
  rw [evFn_eq2 (cx := cx0) (c := c_r15_Now) rfl Try.func17 c_r15_Now_eq (of_decide_eq_true (by kernel_rfl)) d_r15_Now (of_decide_eq_true (by kernel_rfl))]
  exact congrArg (fin Try.prog [.cell 4 23, .tmp 5]) (F_r15_Now_eq (evFn cx0 ext0 n) n bx.length a0 a1 bx)

/-- scupper/roll.Some -/
def kp_roll_Some : Option (List Nat) := some [0, 1, 2, 3, 5, 6, 7]
noncomputable def c_roll_Some : Code := Try.f18.body.getD .skip
noncomputable def F_roll_Some (E : FnA) (_n _n0 : Nat) (a0 a1 a2 : AV) (bx : Bx) : Option (Ex × S) :=
  (boxA bx a0).bind fun r1 =>
  (boxA r1.2 a2).bind fun r2 =>
  (allocA Try.prog r2.2 23).bind fun r3 =>
  (pv r3.2 (loadA Try.prog 23 r3.2 r1.1)).bind fun r4 =>
  (callA E md0 r4.2 27 [r4.1, a1, (AV.fn 36 [] [r2.1])]).bind fun r5 =>
  (pv r5.2 (tupA r5.1 0)).bind fun r6 =>
  (pv r6.2 (tupA r5.1 1)).bind fun r7 =>
  (stA Try.prog 23 r7.2 r3.1 r6.1).bind fun r8 =>
  some (.ret, ⟨[(7, r7.1), (7, (.v (Go.Value.int Go.IntKind.i64 0))), (6, r3.1), (5, r2.1), (3, r1.1), (0, a0), (1, a1), (2, a2)], r8.2⟩)
theorem c_roll_Some_eq : Try.f18.body = some c_roll_Some := by kernel_rfl
theorem d_roll_Some : drawsOk Try.prog md0 c_roll_Some = true := by kernel_rfl
theorem F_roll_Some_eq (E : FnA) (n n0 : Nat) (a0 a1 a2 : AV) (bx : Bx) : evK Try.prog md0 E 14 kp_roll_Some n n0 c_roll_Some ⟨[(0, a0), (1, a1), (2, a2)], bx⟩ (fun s => some (.normal, s)) (fun i s => some (.exit i, s)) = F_roll_Some E n n0 a0 a1 a2 bx := by kernel_rfl

theorem E_roll_Some (n : Nat) (a0 a1 a2 : AV) (bx : Bx) : evFn cx0 ext0 (n + 1) 18 [a0, a1, a2] bx = fin Try.prog [.cell 6 23, .tmp 7] (F_roll_Some (evFn cx0 ext0 n) n bx.length a0 a1 a2 bx) := by
  rw [evFn_eq2 (cx := cx0) (c := c_roll_Some) rfl Try.func18 c_roll_Some_eq (of_decide_eq_true (by kernel_rfl)) d_roll_Some (of_decide_eq_true (by kernel_rfl))]
  exact congrArg (fin Try.prog [.cell 6 23, .tmp 7]) (F_roll_Some_eq (evFn cx0 ext0 n) n bx.length a0 a1 a2 bx)

/-- scupper/scupperbase.Ints -/
def kp_base_Ints : Option (List Nat) := some [0, 2]
noncomputable def c_base_Ints : Code := Try.f19.body.getD .skip
noncomputable def F_base_Ints (_E : FnA) (_n n0 : Nat) (a0 : AV) (bx : Bx) : Option (Ex × S) :=
  (some (AV.bsl (List.length bx) 0 0 0, bx ++ [[]])).bind fun r1 =>
  (buildSliceA Try.prog r1.2 32 0 []).bind fun r2 =>
  (appA Try.prog n0 r2.2 32 r2.1 a0).bind fun r3 =>
  some (.ret, ⟨[(2, r3.1), (2, (r3.2.1 r1.1)), (0, (r3.2.1 a0))], r3.2.2⟩)
theorem c_base_Ints_eq : Try.f19.body = some c_base_Ints := by kernel_rfl
theorem d_base_Ints : drawsOk Try.prog md0 c_base_Ints = true := by kernel_rfl
theorem F_base_Ints_eq (E : FnA) (n n0 : Nat) (a0 : AV) (bx : Bx) : evK Try.prog md0 E 6 kp_base_Ints n n0 c_base_Ints ⟨[(0, a0)], bx⟩ (fun s => some (.normal, s)) (fun i s => some (.exit i, s)) = F_base_Ints E n n0 a0 bx := by kernel_rfl

theorem E_base_Ints (n : Nat) (a0 : AV) (bx : Bx) : evFn cx0 ext0 (n + 1) 19 [a0] bx = fin Try.prog [.tmp 2] (F_base_Ints (evFn cx0 ext0 n) n bx.length a0 bx) := by
  rw [evFn_eq2 (cx := cx0) (c := c_base_Ints) rfl Try.func19 c_base_Ints_eq (of_decide_eq_true (by kernel_rfl)) d_base_Ints (of_decide_eq_true (by kernel_rfl))]
  exact congrArg (fin Try.prog [.tmp 2]) (F_base_Ints_eq (evFn cx0 ext0 n) n bx.length a0 bx)

/-- scupper/scupperref15.Some -/
def kp_r15_Some : Option (List Nat) := some [0, 1, 2, 3, 6, 7, 8, 9, 14, 23]
noncomputable def c_r15_Some : Code := Try.f20.body.getD .skip
noncomputable def L_r15_Some_0 (E : FnA) (_n n0 : Nat) (s : S) : Option (Ex × S) :=
  (pv s.bx (lenA Try.prog 24 (get s.env 1))).bind fun r16 =>
  (pv r16.2 (binA Try.prog .lss 3 (get s.env 9) r16.1)).bind fun r17 =>
  condA r17.1 ((pv r17.2 (indexAddrA Try.prog 24 (get (prune kp_r15_Some s.env) 1) (get (prune kp_r15_Some s.env) 9))).bind fun r18 =>
  (pv r18.2 (fieldAddrA Try.prog 34 r18.1 0)).bind fun r19 =>
  (pv r19.2 (loadA Try.prog 3 r19.2 r19.1)).bind fun r20 =>
  (callA E md0 r20.2 38 [(get (prune kp_r15_Some s.env) 2), r20.1]).bind fun r21 =>
  condA r21.1 ((pv r21.2 (indexAddrA Try.prog 24 (get (prune kp_r15_Some (prune kp_r15_Some s.env)) 1) (get (prune kp_r15_Some (prune kp_r15_Some s.env)) 9))).bind fun r22 =>
  (pv r22.2 (loadA Try.prog 34 r22.2 r22.1)).bind fun r23 =>
  (buildSliceA Try.prog r23.2 24 1 [(0, r23.1)]).bind fun r24 =>
  (appA Try.prog n0 r24.2 24 (get (prune kp_r15_Some (prune kp_r15_Some s.env)) 8) r24.1).bind fun r25 =>
  (pv r25.2.2 (binA Try.prog .add 3 (get (prune kp_r15_Some (mapE r25.2.1 (prune kp_r15_Some (prune kp_r15_Some s.env)))) 9) (.v (Go.Value.int Go.IntKind.i64 1)))).bind fun r26 =>
  some (.normal, ⟨((9, r26.1) :: (8, r25.1) :: (23, (r25.2.1 r21.1)) :: (14, (r25.2.1 r17.1)) :: (prune kp_r15_Some (prune kp_r15_Some (mapE r25.2.1 (prune kp_r15_Some (prune kp_r15_Some s.env)))))), r26.2⟩)) ((pv r21.2 (binA Try.prog .add 3 (get (prune kp_r15_Some (prune kp_r15_Some s.env)) 9) (.v (Go.Value.int Go.IntKind.i64 1)))).bind fun r27 =>
  some (.normal, ⟨((9, r27.1) :: (23, r21.1) :: (14, r17.1) :: (prune kp_r15_Some (prune kp_r15_Some (prune kp_r15_Some s.env)))), r27.2⟩))) (some (.exit 0, ⟨((14, r17.1) :: (prune kp_r15_Some s.env)), r17.2⟩))
noncomputable def B_r15_Some_0 (E : FnA) (_n n0 : Nat) (x9 x8 x7 x6 x3 x0 x1 x2 : AV) (y : Bx) : Option (Ex × S) :=
  (pv y (lenA Try.prog 24 x1)).bind fun r4 =>
  (pv r4.2 (binA Try.prog .lss 3 x9 r4.1)).bind fun r5 =>
  condA r5.1 ((pv r5.2 (indexAddrA Try.prog 24 x1 x9)).bind fun r6 =>
  (pv r6.2 (fieldAddrA Try.prog 34 r6.1 0)).bind fun r7 =>
  (pv r7.2 (loadA Try.prog 3 r7.2 r7.1)).bind fun r8 =>
  (callA E md0 r8.2 38 [x2, r8.1]).bind fun r9 =>
  condA r9.1 ((pv r9.2 (indexAddrA Try.prog 24 x1 x9)).bind fun r10 =>
  (pv r10.2 (loadA Try.prog 34 r10.2 r10.1)).bind fun r11 =>
  (buildSliceA Try.prog r11.2 24 1 [(0, r11.1)]).bind fun r12 =>
  (appA Try.prog n0 r12.2 24 x8 r12.1).bind fun r13 =>
  (pv r13.2.2 (binA Try.prog .add 3 (r13.2.1 x9) (.v (Go.Value.int Go.IntKind.i64 1)))).bind fun r14 =>
  some (.normal, ⟨[(9, r14.1), (8, r13.1), (23, (r13.2.1 r9.1)), (14, (r13.2.1 r5.1)), (9, (r13.2.1 x9)), (8, (r13.2.1 x8)), (7, (r13.2.1 x7)), (6, (r13.2.1 x6)), (3, (r13.2.1 x3)), (0, (r13.2.1 x0)), (1, (r13.2.1 x1)), (2, (r13.2.1 x2))], r14.2⟩)) ((pv r9.2 (binA Try.prog .add 3 x9 (.v (Go.Value.int Go.IntKind.i64 1)))).bind fun r15 =>
  some (.normal, ⟨[(9, r15.1), (23, r9.1), (14, r5.1), (9, x9), (8, x8), (7, x7), (6, x6), (3, x3), (0, x0), (1, x1), (2, x2)], r15.2⟩))) (some (.exit 0, ⟨[(14, r5.1), (9, x9), (8, x8), (7, x7), (6, x6), (3, x3), (0, x0), (1, x1), (2, x2)], r5.2⟩))
theorem L_r15_Some_0_lit {E : FnA} {n n0 : Nat} {x9 x8 x7 x6 x3 x0 x1 x2 : AV} {y : Bx} {Q : Ex → S → Prop} (h : Ends (B_r15_Some_0 E n n0 x9 x8 x7 x6 x3 x0 x1 x2 y) Q) : Ends (L_r15_Some_0 E n n0 ⟨[(9, x9), (8, x8), (7, x7), (6, x6), (3, x3), (0, x0), (1, x1), (2, x2)], y⟩) Q := by
  rw [show L_r15_Some_0 E n n0 ⟨[(9, x9), (8, x8), (7, x7), (6, x6), (3, x3), (0, x0), (1, x1), (2, x2)], y⟩ = B_r15_Some_0 E n n0 x9 x8 x7 x6 x3 x0 x1 x2 y by kernel_rfl]
  exact h
noncomputable def K_r15_Some_0 (E : FnA) (_n _n0 : Nat) (t : S) : Option (Ex × S) :=
  (pv t.bx (loadA Try.prog 23 t.bx (get t.env 3))).bind fun r33 =>
  (callA E md0 r33.2 17 [r33.1, (get t.env 8)]).bind fun r34 =>
  (pv r34.2 (tupA r34.1 0)).bind fun r35 =>
  (pv r35.2 (tupA r34.1 1)).bind fun r36 =>
  (stA Try.prog 23 r36.2 (get t.env 6) r35.1).bind fun r37 =>
  some (.ret, ⟨((7, r36.1) :: (prune kp_r15_Some t.env)), r37.2⟩)
noncomputable def X_r15_Some_0 (E : FnA) (_n _n0 : Nat) (i : Nat) (t : S) : Option (Ex × S) :=
  if i = 0 then (pv t.bx (loadA Try.prog 23 t.bx (get t.env 3))).bind fun r28 =>
  (callA E md0 r28.2 17 [r28.1, (get t.env 8)]).bind fun r29 =>
  (pv r29.2 (tupA r29.1 0)).bind fun r30 =>
  (pv r30.2 (tupA r29.1 1)).bind fun r31 =>
  (stA Try.prog 23 r31.2 (get t.env 6) r30.1).bind fun r32 =>
  some (.ret, ⟨((7, r31.1) :: (prune kp_r15_Some t.env)), r32.2⟩) else some (.exit i, ⟨t.env, t.bx⟩)
noncomputable def X_r15_Some_0_0 (E : FnA) (_n _n0 : Nat) (x14 x9 x8 x7 x6 x3 x0 x1 x2 : AV) (y : Bx) : Option (Ex × S) :=
  (pv y (loadA Try.prog 23 y x3)).bind fun r38 =>
  (callA E md0 r38.2 17 [r38.1, x8]).bind fun r39 =>
  (pv r39.2 (tupA r39.1 0)).bind fun r40 =>
  (pv r40.2 (tupA r39.1 1)).bind fun r41 =>
  (stA Try.prog 23 r41.2 x6 r40.1).bind fun r42 =>
  some (.ret, ⟨[(7, r41.1), (14, x14), (9, x9), (8, x8), (7, x7), (6, x6), (3, x3), (0, x0), (1, x1), (2, x2)], r42.2⟩)
theorem X_r15_Some_0_0_lit {E : FnA} {n n0 : Nat} {x14 x9 x8 x7 x6 x3 x0 x1 x2 : AV} {y : Bx} {Q : Ex → S → Prop} (h : Ends (X_r15_Some_0_0 E n n0 x14 x9 x8 x7 x6 x3 x0 x1 x2 y) Q) : Ends (X_r15_Some_0 E n n0 0 ⟨[(14, x14), (9, x9), (8, x8), (7, x7), (6, x6), (3, x3), (0, x0), (1, x1), (2, x2)], y⟩) Q := by
  rw [show X_r15_Some_0 E n n0 0 ⟨[(14, x14), (9, x9), (8, x8), (7, x7), (6, x6), (3, x3), (0, x0), (1, x1), (2, x2)], y⟩ = X_r15_Some_0_0 E n n0 x14 x9 x8 x7 x6 x3 x0 x1 x2 y by kernel_rfl]
  exact h
noncomputable def F_r15_Some (E : FnA) (n n0 : Nat) (a0 a1 a2 : AV) (bx : Bx) : Option (Ex × S) :=
  (boxA bx a0).bind fun r1 =>
  (allocA Try.prog r1.2 23).bind fun r2 =>
  (buildSliceA Try.prog r2.2 24 0 []).bind fun r3 =>
  exitA (iter (head ⟨[(9, (.v (Go.Value.int Go.IntKind.i64 0))), (8, r3.1), (7, (.v (Go.Value.int Go.IntKind.i64 0))), (6, r2.1), (3, r1.1), (0, a0), (1, a1), (2, a2)], r3.2⟩) (L_r15_Some_0 E n n0) n ⟨[(9, (.v (Go.Value.int Go.IntKind.i64 0))), (8, r3.1), (7, (.v (Go.Value.int Go.IntKind.i64 0))), (6, r2.1), (3, r1.1), (0, a0), (1, a1), (2, a2)], r3.2⟩) (K_r15_Some_0 E n n0) (X_r15_Some_0 E n n0)
theorem c_r15_Some_eq : Try.f20.body = some c_r15_Some := by kernel_rfl
theorem d_r15_Some : drawsOk Try.prog md0 c_r15_Some = true := by kernel_rfl
theorem F_r15_Some_eq (E : FnA) (n n0 : Nat) (a0 a1 a2 : AV) (bx : Bx) : evK Try.prog md0 E 36 kp_r15_Some n n0 c_r15_Some ⟨[(0, a0), (1, a1), (2, a2)], bx⟩ (fun s => some (.normal, s)) (fun i s => some (.exit i, s)) = F_r15_Some E n n0 a0 a1 a2 bx := by kernel_rfl

theorem E_r15_Some (n : Nat) (a0 a1 a2 : AV) (bx : Bx) : evFn cx0 ext0 (n + 1) 20 [a0, a1, a2] bx = fin Try.prog [.cell 6 23, .tmp 7] (F_r15_Some (evFn cx0 ext0 n) n bx.length a0 a1 a2 bx) := by
  rw [evFn_eq2 (cx := cx0) (c := c_r15_Some) rfl Try.func20 c_r15_Some_eq (of_decide_eq_true (by kernel_rfl)) d_r15_Some (of_decide_eq_true (by kernel_rfl))]
  exact congrArg (fin Try.prog [.cell 6 23, .tmp 7]) (F_r15_Some_eq (evFn cx0 ext0 n) n bx.length a0 a1 a2 bx)

/-- scupper/roll.Without -/
def kp_roll_Without : Option (List Nat) := some [0, 1, 4, 5, 7, 8, 9, 10, 11, 18]
noncomputable def c_roll_Without : Code := Try.f21.body.getD .skip
noncomputable def L_roll_Without_0 (E : FnA) (_n n0 : Nat) (s : S) : Option (Ex × S) :=
  (pv s.bx (binA Try.prog .lss 3 (get s.env 10) (get s.env 9))).bind fun r18 =>
  condA r18.1 ((pv r18.2 (indexAddrA Try.prog 24 (get (prune kp_roll_Without s.env) 8) (get (prune kp_roll_Without s.env) 10))).bind fun r19 =>
  (pv r19.2 (loadA Try.prog 34 r19.2 r19.1)).bind fun r20 =>
  (allocA Try.prog r20.2 34).bind fun r21 =>
  (stA Try.prog 34 r21.2 r21.1 r20.1).bind fun r22 =>
  (pv r22.2 (fieldAddrA Try.prog 34 r21.1 0)).bind fun r23 =>
  (pv r23.2 (loadA Try.prog 3 r23.2 r23.1)).bind fun r24 =>
  (callA E md0 r24.2 37 [(get (prune kp_roll_Without (prune kp_roll_Without s.env)) 1), r24.1]).bind fun r25 =>
  (pv r25.2 (unA .not r25.1)).bind fun r26 =>
  condA r26.1 ((pv r26.2 (loadA Try.prog 34 r26.2 r21.1)).bind fun r27 =>
  (buildSliceA Try.prog r27.2 24 1 [(0, r27.1)]).bind fun r28 =>
  (appA Try.prog n0 r28.2 24 (get (prune kp_roll_Without (prune kp_roll_Without (prune kp_roll_Without s.env))) 5) r28.1).bind fun r29 =>
  (pv r29.2.2 (binA Try.prog .add 3 (get (prune kp_roll_Without (mapE r29.2.1 (prune kp_roll_Without (prune kp_roll_Without (prune kp_roll_Without s.env))))) 10) (.v (Go.Value.int Go.IntKind.i64 1)))).bind fun r30 =>
  some (.normal, ⟨((10, r30.1) :: (5, r29.1) :: (18, (r29.2.1 r26.1)) :: (7, (r29.2.1 r21.1)) :: (11, (r29.2.1 r18.1)) :: (prune kp_roll_Without (prune kp_roll_Without (mapE r29.2.1 (prune kp_roll_Without (prune kp_roll_Without (prune kp_roll_Without s.env))))))), r30.2⟩)) ((pv r26.2 (binA Try.prog .add 3 (get (prune kp_roll_Without (prune kp_roll_Without (prune kp_roll_Without s.env))) 10) (.v (Go.Value.int Go.IntKind.i64 1)))).bind fun r31 =>
  some (.normal, ⟨((10, r31.1) :: (18, r26.1) :: (7, r21.1) :: (11, r18.1) :: (prune kp_roll_Without (prune kp_roll_Without (prune kp_roll_Without (prune kp_roll_Without s.env))))), r31.2⟩))) (some (.exit 0, ⟨((11, r18.1) :: (prune kp_roll_Without s.env)), r18.2⟩))
noncomputable def B_roll_Without_0 (E : FnA) (_n n0 : Nat) (x10 x9 x8 x5 x4 x0 x1 : AV) (y : Bx) : Option (Ex × S) :=
  (pv y (binA Try.prog .lss 3 x10 x9)).bind fun r4 =>
  condA r4.1 ((pv r4.2 (indexAddrA Try.prog 24 x8 x10)).bind fun r5 =>
  (pv r5.2 (loadA Try.prog 34 r5.2 r5.1)).bind fun r6 =>
  (allocA Try.prog r6.2 34).bind fun r7 =>
  (stA Try.prog 34 r7.2 r7.1 r6.1).bind fun r8 =>
  (pv r8.2 (fieldAddrA Try.prog 34 r7.1 0)).bind fun r9 =>
  (pv r9.2 (loadA Try.prog 3 r9.2 r9.1)).bind fun r10 =>
  (callA E md0 r10.2 37 [x1, r10.1]).bind fun r11 =>
  (pv r11.2 (unA .not r11.1)).bind fun r12 =>
  condA r12.1 ((pv r12.2 (loadA Try.prog 34 r12.2 r7.1)).bind fun r13 =>
  (buildSliceA Try.prog r13.2 24 1 [(0, r13.1)]).bind fun r14 =>
  (appA Try.prog n0 r14.2 24 x5 r14.1).bind fun r15 =>
  (pv r15.2.2 (binA Try.prog .add 3 (r15.2.1 x10) (.v (Go.Value.int Go.IntKind.i64 1)))).bind fun r16 =>
  some (.normal, ⟨[(10, r16.1), (5, r15.1), (18, (r15.2.1 r12.1)), (7, (r15.2.1 r7.1)), (11, (r15.2.1 r4.1)), (10, (r15.2.1 x10)), (9, (r15.2.1 x9)), (8, (r15.2.1 x8)), (5, (r15.2.1 x5)), (4, (r15.2.1 x4)), (0, (r15.2.1 x0)), (1, (r15.2.1 x1))], r16.2⟩)) ((pv r12.2 (binA Try.prog .add 3 x10 (.v (Go.Value.int Go.IntKind.i64 1)))).bind fun r17 =>
  some (.normal, ⟨[(10, r17.1), (18, r12.1), (7, r7.1), (11, r4.1), (10, x10), (9, x9), (8, x8), (5, x5), (4, x4), (0, x0), (1, x1)], r17.2⟩))) (some (.exit 0, ⟨[(11, r4.1), (10, x10), (9, x9), (8, x8), (5, x5), (4, x4), (0, x0), (1, x1)], r4.2⟩))
theorem L_roll_Without_0_lit {E : FnA} {n n0 : Nat} {x10 x9 x8 x5 x4 x0 x1 : AV} {y : Bx} {Q : Ex → S → Prop} (h : Ends (B_roll_Without_0 E n n0 x10 x9 x8 x5 x4 x0 x1 y) Q) : Ends (L_roll_Without_0 E n n0 ⟨[(10, x10), (9, x9), (8, x8), (5, x5), (4, x4), (0, x0), (1, x1)], y⟩) Q := by
  rw [show L_roll_Without_0 E n n0 ⟨[(10, x10), (9, x9), (8, x8), (5, x5), (4, x4), (0, x0), (1, x1)], y⟩ = B_roll_Without_0 E n n0 x10 x9 x8 x5 x4 x0 x1 y by kernel_rfl]
  exact h
noncomputable def K_roll_Without_0 (_E : FnA) (_n _n0 : Nat) (t : S) : Option (Ex × S) :=
  some (.ret, ⟨((4, (get t.env 5)) :: (prune kp_roll_Without t.env)), t.bx⟩)
noncomputable def X_roll_Without_0 (_E : FnA) (_n _n0 : Nat) (i : Nat) (t : S) : Option (Ex × S) :=
  if i = 0 then some (.ret, ⟨((4, (get t.env 5)) :: (prune kp_roll_Without t.env)), t.bx⟩) else some (.exit i, ⟨t.env, t.bx⟩)
noncomputable def X_roll_Without_0_0 (_E : FnA) (_n _n0 : Nat) (x11 x10 x9 x8 x5 x4 x0 x1 : AV) (y : Bx) : Option (Ex × S) :=
  some (.ret, ⟨[(4, x5), (11, x11), (10, x10), (9, x9), (8, x8), (5, x5), (4, x4), (0, x0), (1, x1)], y⟩)
theorem X_roll_Without_0_0_lit {E : FnA} {n n0 : Nat} {x11 x10 x9 x8 x5 x4 x0 x1 : AV} {y : Bx} {Q : Ex → S → Prop} (h : Ends (X_roll_Without_0_0 E n n0 x11 x10 x9 x8 x5 x4 x0 x1 y) Q) : Ends (X_roll_Without_0 E n n0 0 ⟨[(11, x11), (10, x10), (9, x9), (8, x8), (5, x5), (4, x4), (0, x0), (1, x1)], y⟩) Q := by
  rw [show X_roll_Without_0 E n n0 0 ⟨[(11, x11), (10, x10), (9, x9), (8, x8), (5, x5), (4, x4), (0, x0), (1, x1)], y⟩ = X_roll_Without_0_0 E n n0 x11 x10 x9 x8 x5 x4 x0 x1 y by kernel_rfl]
  exact h
noncomputable def F_roll_Without (E : FnA) (n n0 : Nat) (a0 a1 : AV) (bx : Bx) : Option (Ex × S) :=
  (some (AV.bsl (List.length bx) 0 0 0, bx ++ [[]])).bind fun r1 =>
  (some (AV.bsl (List.length r1.2) 0 0 0, r1.2 ++ [[]])).bind fun r2 =>
  (pv r2.2 (lenA Try.prog 24 a0)).bind fun r3 =>
  exitA (iter (head ⟨[(10, (.v (Go.Value.int Go.IntKind.i64 0))), (9, r3.1), (8, a0), (5, r2.1), (4, r1.1), (0, a0), (1, a1)], r3.2⟩) (L_roll_Without_0 E n n0) n ⟨[(10, (.v (Go.Value.int Go.IntKind.i64 0))), (9, r3.1), (8, a0), (5, r2.1), (4, r1.1), (0, a0), (1, a1)], r3.2⟩) (K_roll_Without_0 E n n0) (X_roll_Without_0 E n n0)
theorem c_roll_Without_eq : Try.f21.body = some c_roll_Without := by kernel_rfl
theorem d_roll_Without : drawsOk Try.prog md0 c_roll_Without = true := by kernel_rfl
theorem F_roll_Without_eq (E : FnA) (n n0 : Nat) (a0 a1 : AV) (bx : Bx) : evK Try.prog md0 E 25 kp_roll_Without n n0 c_roll_Without ⟨[(0, a0), (1, a1)], bx⟩ (fun s => some (.normal, s)) (fun i s => some (.exit i, s)) = F_roll_Without E n n0 a0 a1 bx := by kernel_rfl

theorem E_roll_Without (n : Nat) (a0 a1 : AV) (bx : Bx) : evFn cx0 ext0 (n + 1) 21 [a0, a1] bx = fin Try.prog [.tmp 4] (F_roll_Without (evFn cx0 ext0 n) n bx.length a0 a1 bx) := by
  rw [evFn_eq2 (cx := cx0) (c := c_roll_Without) rfl Try.func21 c_roll_Without_eq (of_decide_eq_true (by kernel_rfl)) d_roll_Without (of_decide_eq_true (by kernel_rfl))]
  exact congrArg (fin Try.prog [.tmp 4]) (F_roll_Without_eq (evFn cx0 ext0 n) n bx.length a0 a1 bx)

/-- scupper/scupperref15.Without -/
def kp_r15_Without : Option (List Nat) := some [0, 1, 4, 5, 6, 11, 21]
noncomputable def c_r15_Without : Code := Try.f22.body.getD .skip
noncomputable def L_r15_Without_0 (E : FnA) (_n n0 : Nat) (s : S) : Option (Ex × S) :=
  (pv s.bx (lenA Try.prog 24 (get s.env 0))).bind fun r16 =>
  (pv r16.2 (binA Try.prog .lss 3 (get s.env 6) r16.1)).bind fun r17 =>
  condA r17.1 ((pv r17.2 (indexAddrA Try.prog 24 (get (prune kp_r15_Without s.env) 0) (get (prune kp_r15_Without s.env) 6))).bind fun r18 =>
  (pv r18.2 (fieldAddrA Try.prog 34 r18.1 0)).bind fun r19 =>
  (pv r19.2 (loadA Try.prog 3 r19.2 r19.1)).bind fun r20 =>
  (callA E md0 r20.2 38 [(get (prune kp_r15_Without s.env) 1), r20.1]).bind fun r21 =>
  (pv r21.2 (unA .not r21.1)).bind fun r22 =>
  condA r22.1 ((pv r22.2 (indexAddrA Try.prog 24 (get (prune kp_r15_Without (prune kp_r15_Without s.env)) 0) (get (prune kp_r15_Without (prune kp_r15_Without s.env)) 6))).bind fun r23 =>
  (pv r23.2 (loadA Try.prog 34 r23.2 r23.1)).bind fun r24 =>
  (buildSliceA Try.prog r24.2 24 1 [(0, r24.1)]).bind fun r25 =>
  (appA Try.prog n0 r25.2 24 (get (prune kp_r15_Without (prune kp_r15_Without s.env)) 5) r25.1).bind fun r26 =>
  (pv r26.2.2 (binA Try.prog .add 3 (get (prune kp_r15_Without (mapE r26.2.1 (prune kp_r15_Without (prune kp_r15_Without s.env)))) 6) (.v (Go.Value.int Go.IntKind.i64 1)))).bind fun r27 =>
  some (.normal, ⟨((6, r27.1) :: (5, r26.1) :: (21, (r26.2.1 r22.1)) :: (11, (r26.2.1 r17.1)) :: (prune kp_r15_Without (prune kp_r15_Without (mapE r26.2.1 (prune kp_r15_Without (prune kp_r15_Without s.env)))))), r27.2⟩)) ((pv r22.2 (binA Try.prog .add 3 (get (prune kp_r15_Without (prune kp_r15_Without s.env)) 6) (.v (Go.Value.int Go.IntKind.i64 1)))).bind fun r28 =>
  some (.normal, ⟨((6, r28.1) :: (21, r22.1) :: (11, r17.1) :: (prune kp_r15_Without (prune kp_r15_Without (prune kp_r15_Without s.env)))), r28.2⟩))) (some (.exit 0, ⟨((11, r17.1) :: (prune kp_r15_Without s.env)), r17.2⟩))
noncomputable def B_r15_Without_0 (E : FnA) (_n n0 : Nat) (x6 x5 x4 x0 x1 : AV) (y : Bx) : Option (Ex × S) :=
  (pv y (lenA Try.prog 24 x0)).bind fun r3 =>
  (pv r3.2 (binA Try.prog .lss 3 x6 r3.1)).bind fun r4 =>
  condA r4.1 ((pv r4.2 (indexAddrA Try.prog 24 x0 x6)).bind fun r5 =>
  (pv r5.2 (fieldAddrA Try.prog 34 r5.1 0)).bind fun r6 =>
  (pv r6.2 (loadA Try.prog 3 r6.2 r6.1)).bind fun r7 =>
  (callA E md0 r7.2 38 [x1, r7.1]).bind fun r8 =>
  (pv r8.2 (unA .not r8.1)).bind fun r9 =>
  condA r9.1 ((pv r9.2 (indexAddrA Try.prog 24 x0 x6)).bind fun r10 =>
  (pv r10.2 (loadA Try.prog 34 r10.2 r10.1)).bind fun r11 =>
  (buildSliceA Try.prog r11.2 24 1 [(0, r11.1)]).bind fun r12 =>
  (appA Try.prog n0 r12.2 24 x5 r12.1).bind fun r13 =>
  (pv r13.2.2 (binA Try.prog .add 3 (r13.2.1 x6) (.v (Go.Value.int Go.IntKind.i64 1)))).bind fun r14 =>
  some (.normal, ⟨[(6, r14.1), (5, r13.1), (21, (r13.2.1 r9.1)), (11, (r13.2.1 r4.1)), (6, (r13.2.1 x6)), (5, (r13.2.1 x5)), (4, (r13.2.1 x4)), (0, (r13.2.1 x0)), (1, (r13.2.1 x1))], r14.2⟩)) ((pv r9.2 (binA Try.prog .add 3 x6 (.v (Go.Value.int Go.IntKind.i64 1)))).bind fun r15 =>
  some (.normal, ⟨[(6, r15.1), (21, r9.1), (11, r4.1), (6, x6), (5, x5), (4, x4), (0, x0), (1, x1)], r15.2⟩))) (some (.exit 0, ⟨[(11, r4.1), (6, x6), (5, x5), (4, x4), (0, x0), (1, x1)], r4.2⟩))
theorem L_r15_Without_0_lit {E : FnA} {n n0 : Nat} {x6 x5 x4 x0 x1 : AV} {y : Bx} {Q : Ex → S → Prop} (h : Ends (B_r15_Without_0 E n n0 x6 x5 x4 x0 x1 y) Q) : Ends (L_r15_Without_0 E n n0 ⟨[(6, x6), (5, x5), (4, x4), (0, x0), (1, x1)], y⟩) Q := by
  rw [show L_r15_Without_0 E n n0 ⟨[(6, x6), (5, x5), (4, x4), (0, x0), (1, x1)], y⟩ = B_r15_Without_0 E n n0 x6 x5 x4 x0 x1 y by kernel_rfl]
  exact h
noncomputable def K_r15_Without_0 (_E : FnA) (_n _n0 : Nat) (t : S) : Option (Ex × S) :=
  some (.ret, ⟨((4, (get t.env 5)) :: (prune kp_r15_Without t.env)), t.bx⟩)
noncomputable def X_r15_Without_0 (_E : FnA) (_n _n0 : Nat) (i : Nat) (t : S) : Option (Ex × S) :=
  if i = 0 then some (.ret, ⟨((4, (get t.env 5)) :: (prune kp_r15_Without t.env)), t.bx⟩) else some (.exit i, ⟨t.env, t.bx⟩)
noncomputable def X_r15_Without_0_0 (_E : FnA) (_n _n0 : Nat) (x11 x6 x5 x4 x0 x1 : AV) (y : Bx) : Option (Ex × S) :=
  some (.ret, ⟨[(4, x5), (11, x11), (6, x6), (5, x5), (4, x4), (0, x0), (1, x1)], y⟩)
theorem X_r15_Without_0_0_lit {E : FnA} {n n0 : Nat} {x11 x6 x5 x4 x0 x1 : AV} {y : Bx} {Q : Ex → S → Prop} (h : Ends (X_r15_Without_0_0 E n n0 x11 x6 x5 x4 x0 x1 y) Q) : Ends (X_r15_Without_0 E n n0 0 ⟨[(11, x11), (6, x6), (5, x5), (4, x4), (0, x0), (1, x1)], y⟩) Q := by
  rw [show X_r15_Without_0 E n n0 0 ⟨[(11, x11), (6, x6), (5, x5), (4, x4), (0, x0), (1, x1)], y⟩ = X_r15_Without_0_0 E n n0 x11 x6 x5 x4 x0 x1 y by kernel_rfl]
  exact h
noncomputable def F_r15_Without (E : FnA) (n n0 : Nat) (a0 a1 : AV) (bx : Bx) : Option (Ex × S) :=
  (some (AV.bsl (List.length bx) 0 0 0, bx ++ [[]])).bind fun r1 =>
  (buildSliceA Try.prog r1.2 24 0 []).bind fun r2 =>
  exitA (iter (head ⟨[(6, (.v (Go.Value.int Go.IntKind.i64 0))), (5, r2.1), (4, r1.1), (0, a0), (1, a1)], r2.2⟩) (L_r15_Without_0 E n n0) n ⟨[(6, (.v (Go.Value.int Go.IntKind.i64 0))), (5, r2.1), (4, r1.1), (0, a0), (1, a1)], r2.2⟩) (K_r15_Without_0 E n n0) (X_r15_Without_0 E n n0)
theorem c_r15_Without_eq : Try.f22.body = some c_r15_Without := by kernel_rfl
theorem d_r15_Without : drawsOk Try.prog md0 c_r15_Without = true := by kernel_rfl
theorem F_r15_Without_eq (E : FnA) (n n0 : Nat) (a0 a1 : AV) (bx : Bx) : evK Try.prog md0 E 30 kp_r15_Without n n0 c_r15_Without ⟨[(0, a0), (1, a1)], bx⟩ (fun s => some (.normal, s)) (fun i s => some (.exit i, s)) = F_r15_Without E n n0 a0 a1 bx := by kernel_rfl

theorem E_r15_Without (n : Nat) (a0 a1 : AV) (bx : Bx) : evFn cx0 ext0 (n + 1) 22 [a0, a1] bx = fin Try.prog [.tmp 4] (F_r15_Without (evFn cx0 ext0 n) n bx.length a0 a1 bx) := by
  rw [evFn_eq2 (cx := cx0) (c := c_r15_Without) rfl Try.func22 c_r15_Without_eq (of_decide_eq_true (by kernel_rfl)) d_r15_Without (of_decide_eq_true (by kernel_rfl))]
  exact congrArg (fin Try.prog [.tmp 4]) (F_r15_Without_eq (evFn cx0 ext0 n) n bx.length a0 a1 bx)

/-- scupper/scupperlaw14.Same -/
def kp_l14_Same : Option (List Nat) := some [0, 1, 2, 3, 4, 7]
noncomputable def c_l14_Same : Code := Try.f23.body.getD .skip
noncomputable def F_l14_Same (E : FnA) (_n _n0 : Nat) (a0 a1 : AV) (bx : Bx) : Option (Ex × S) :=
  (boxA bx a0).bind fun r1 =>
  (boxA r1.2 a1).bind fun r2 =>
  (pv r2.2 (loadA Try.prog 34 r2.2 r1.1)).bind fun r3 =>
  (pv r3.2 (loadA Try.prog 34 r3.2 r2.1)).bind fun r4 =>
  (callA E md0 r4.2 39 [r3.1, r4.1]).bind fun r5 =>
  condA r5.1 (some (.ret, ⟨[(4, (.v (Go.Value.int Go.IntKind.i64 1))), (7, r5.1), (4, (.v (Go.Value.int Go.IntKind.i64 0))), (3, r2.1), (2, r1.1), (0, a0), (1, a1)], r5.2⟩)) (some (.ret, ⟨[(4, (.v (Go.Value.int Go.IntKind.i64 0))), (7, r5.1), (4, (.v (Go.Value.int Go.IntKind.i64 0))), (3, r2.1), (2, r1.1), (0, a0), (1, a1)], r5.2⟩))
theorem c_l14_Same_eq : Try.f23.body = some c_l14_Same := by kernel_rfl
theorem d_l14_Same : drawsOk Try.prog md0 c_l14_Same = true := by kernel_rfl
theorem F_l14_Same_eq (E : FnA) (n n0 : Nat) (a0 a1 : AV) (bx : Bx) : evK Try.prog md0 E 8 kp_l14_Same n n0 c_l14_Same ⟨[(0, a0), (1, a1)], bx⟩ (fun s => some (.normal, s)) (fun i s => some (.exit i, s)) = F_l14_Same E n n0 a0 a1 bx := by kernel_rfl

theorem E_l14_Same (n : Nat) (a0 a1 : AV) (bx : Bx) : evFn cx0 ext0 (n + 1) 23 [a0, a1] bx = fin Try.prog [.tmp 4] (F_l14_Same (evFn cx0 ext0 n) n bx.length a0 a1 bx) := by
  rw [evFn_eq2 (cx := cx0) (c := c_l14_Same) rfl Try.func23 c_l14_Same_eq (of_decide_eq_true (by kernel_rfl)) d_l14_Same (of_decide_eq_true (by kernel_rfl))]
  exact congrArg (fin Try.prog [.tmp 4]) (F_l14_Same_eq (evFn cx0 ext0 n) n bx.length a0 a1 bx)

/-- scupper/scupperbase.HasInt -/
def kp_base_HasInt : Option (List Nat) := some [0, 1, 4, 5, 9, 17]
noncomputable def c_base_HasInt : Code := Try.f24.body.getD .skip
noncomputable def L_base_HasInt_0 (_E : FnA) (_n _n0 : Nat) (s : S) : Option (Ex × S) :=
  (pv s.bx (lenA Try.prog 32 (get s.env 0))).bind fun r7 =>
  (pv r7.2 (binA Try.prog .lss 3 (get s.env 5) r7.1)).bind fun r8 =>
  condA r8.1 ((pv r8.2 (indexAddrA Try.prog 32 (get (prune kp_base_HasInt s.env) 0) (get (prune kp_base_HasInt s.env) 5))).bind fun r9 =>
  (pv r9.2 (loadA Try.prog 3 r9.2 r9.1)).bind fun r10 =>
  (pv r10.2 (binA Try.prog .eql 3 r10.1 (get (prune kp_base_HasInt s.env) 1))).bind fun r11 =>
  condA r11.1 (some (.ret, ⟨((4, (.v (Go.Value.bool true))) :: (17, r11.1) :: (9, r8.1) :: (prune kp_base_HasInt (prune kp_base_HasInt (prune kp_base_HasInt s.env)))), r11.2⟩)) ((pv r11.2 (binA Try.prog .add 3 (get (prune kp_base_HasInt (prune kp_base_HasInt s.env)) 5) (.v (Go.Value.int Go.IntKind.i64 1)))).bind fun r12 =>
  some (.normal, ⟨((5, r12.1) :: (17, r11.1) :: (9, r8.1) :: (prune kp_base_HasInt (prune kp_base_HasInt (prune kp_base_HasInt s.env)))), r12.2⟩))) (some (.exit 0, ⟨((9, r8.1) :: (prune kp_base_HasInt s.env)), r8.2⟩))
noncomputable def B_base_HasInt_0 (_E : FnA) (_n _n0 : Nat) (x5 x4 x0 x1 : AV) (y : Bx) : Option (Ex × S) :=
  (pv y (lenA Try.prog 32 x0)).bind fun r1 =>
  (pv r1.2 (binA Try.prog .lss 3 x5 r1.1)).bind fun r2 =>
  condA r2.1 ((pv r2.2 (indexAddrA Try.prog 32 x0 x5)).bind fun r3 =>
  (pv r3.2 (loadA Try.prog 3 r3.2 r3.1)).bind fun r4 =>
  (pv r4.2 (binA Try.prog .eql 3 r4.1 x1)).bind fun r5 =>
  condA r5.1 (some (.ret, ⟨[(4, (.v (Go.Value.bool true))), (17, r5.1), (9, r2.1), (5, x5), (4, x4), (0, x0), (1, x1)], r5.2⟩)) ((pv r5.2 (binA Try.prog .add 3 x5 (.v (Go.Value.int Go.IntKind.i64 1)))).bind fun r6 =>
  some (.normal, ⟨[(5, r6.1), (17, r5.1), (9, r2.1), (5, x5), (4, x4), (0, x0), (1, x1)], r6.2⟩))) (some (.exit 0, ⟨[(9, r2.1), (5, x5), (4, x4), (0, x0), (1, x1)], r2.2⟩))
theorem L_base_HasInt_0_lit {E : FnA} {n n0 : Nat} {x5 x4 x0 x1 : AV} {y : Bx} {Q : Ex → S → Prop} (h : Ends (B_base_HasInt_0 E n n0 x5 x4 x0 x1 y) Q) : Ends (L_base_HasInt_0 E n n0 ⟨[(5, x5), (4, x4), (0, x0), (1, x1)], y⟩) Q := by
  rw [show L_base_HasInt_0 E n n0 ⟨[(5, x5), (4, x4), (0, x0), (1, x1)], y⟩ = B_base_HasInt_0 E n n0 x5 x4 x0 x1 y by kernel_rfl]
  exact h
noncomputable def K_base_HasInt_0 (_E : FnA) (_n _n0 : Nat) (t : S) : Option (Ex × S) :=
  some (.ret, ⟨((4, (.v (Go.Value.bool false))) :: (prune kp_base_HasInt t.env)), t.bx⟩)
noncomputable def X_base_HasInt_0 (_E : FnA) (_n _n0 : Nat) (i : Nat) (t : S) : Option (Ex × S) :=
  if i = 0 then some (.ret, ⟨((4, (.v (Go.Value.bool false))) :: (prune kp_base_HasInt t.env)), t.bx⟩) else some (.exit i, ⟨t.env, t.bx⟩)
noncomputable def X_base_HasInt_0_0 (_E : FnA) (_n _n0 : Nat) (x9 x5 x4 x0 x1 : AV) (y : Bx) : Option (Ex × S) :=
  some (.ret, ⟨[(4, (.v (Go.Value.bool false))), (9, x9), (5, x5), (4, x4), (0, x0), (1, x1)], y⟩)
theorem X_base_HasInt_0_0_lit {E : FnA} {n n0 : Nat} {x9 x5 x4 x0 x1 : AV} {y : Bx} {Q : Ex → S → Prop} (h : Ends (X_base_HasInt_0_0 E n n0 x9 x5 x4 x0 x1 y) Q) : Ends (X_base_HasInt_0 E n n0 0 ⟨[(9, x9), (5, x5), (4, x4), (0, x0), (1, x1)], y⟩) Q := by
  rw [show X_base_HasInt_0 E n n0 0 ⟨[(9, x9), (5, x5), (4, x4), (0, x0), (1, x1)], y⟩ = X_base_HasInt_0_0 E n n0 x9 x5 x4 x0 x1 y by kernel_rfl]
  exact h
noncomputable def F_base_HasInt (E : FnA) (n n0 : Nat) (a0 a1 : AV) (bx : Bx) : Option (Ex × S) :=
  exitA (iter (head ⟨[(5, (.v (Go.Value.int Go.IntKind.i64 0))), (4, (.v (Go.Value.bool false))), (0, a0), (1, a1)], bx⟩) (L_base_HasInt_0 E n n0) n ⟨[(5, (.v (Go.Value.int Go.IntKind.i64 0))), (4, (.v (Go.Value.bool false))), (0, a0), (1, a1)], bx⟩) (K_base_HasInt_0 E n n0) (X_base_HasInt_0 E n n0)
theorem c_base_HasInt_eq : Try.f24.body = some c_base_HasInt := by kernel_rfl
theorem d_base_HasInt : drawsOk Try.prog md0 c_base_HasInt = true := by kernel_rfl
theorem F_base_HasInt_eq (E : FnA) (n n0 : Nat) (a0 a1 : AV) (bx : Bx) : evK Try.prog md0 E 18 kp_base_HasInt n n0 c_base_HasInt ⟨[(0, a0), (1, a1)], bx⟩ (fun s => some (.normal, s)) (fun i s => some (.exit i, s)) = F_base_HasInt E n n0 a0 a1 bx := by kernel_rfl

theorem E_base_HasInt (n : Nat) (a0 a1 : AV) (bx : Bx) : evFn cx0 ext0 (n + 1) 24 [a0, a1] bx = fin Try.prog [.tmp 4] (F_base_HasInt (evFn cx0 ext0 n) n bx.length a0 a1 bx) := by
  rw [evFn_eq2 (cx := cx0) (c := c_base_HasInt) rfl Try.func24 c_base_HasInt_eq (of_decide_eq_true (by kernel_rfl)) d_base_HasInt (of_decide_eq_true (by kernel_rfl))]
  exact congrArg (fin Try.prog [.tmp 4]) (F_base_HasInt_eq (evFn cx0 ext0 n) n bx.length a0 a1 bx)

/-- scupper/roll.Lay -/
def kp_roll_Lay : Option (List Nat) := some [0, 1, 2, 3, 4, 6, 7, 8, 9, 10, 17, 27, 47]
noncomputable def c_roll_Lay : Code := Try.f25.body.getD .skip
noncomputable def F_roll_Lay (E : FnA) (_n _n0 : Nat) (a0 a1 a2 : AV) (bx : Bx) : Option (Ex × S) :=
  (boxA bx a0).bind fun r1 =>
  (boxA r1.2 a1).bind fun r2 =>
  (allocA Try.prog r2.2 23).bind fun r3 =>
  (pv r3.2 (fieldAddrA Try.prog 34 r2.1 3)).bind fun r4 =>
  (pv r4.2 (loadA Try.prog 31 r4.2 r4.1)).bind fun r5 =>
  (pv r5.2 (lenA Try.prog 31 r5.1)).bind fun r6 =>
  (pv r6.2 (fieldAddrA Try.prog 34 r2.1 4)).bind fun r7 =>
  (pv r7.2 (loadA Try.prog 3 r7.2 r7.1)).bind fun r8 =>
  (callA E md0 r8.2 40 [r8.1]).bind fun r9 =>
  (pv r9.2 (fieldAddrA Try.prog 34 r2.1 4)).bind fun r10 =>
  (pv r10.2 (loadA Try.prog 3 r10.2 r10.1)).bind fun r11 =>
  (pv r11.2 (binA Try.prog .lss 3 r11.1 (.v (Go.Value.int Go.IntKind.i64 0)))).bind fun r12 =>
  (gsel false r12.2 (pv r12.2 (fieldAddrA Try.prog 34 r2.1 4)) r12.1).bind fun r13 =>
  (gsel false r13.2 (pv r13.2 (loadA Try.prog 3 r13.2 r13.1)) r12.1).bind fun r14 =>
  (gsel false r14.2 (pv r14.2 (binA Try.prog .gtr 3 r14.1 (.v (Go.Value.int Go.IntKind.i64 6)))) r12.1).bind fun r15 =>
  (pv r15.2 (pickA r12.1 (.v (Go.Value.bool true)) r15.1)).bind fun r16 =>
  condA r16.1 ((pv r16.2 (loadA Try.prog 23 r16.2 r1.1)).bind fun r17 =>
  (stA Try.prog 23 r17.2 r3.1 r17.1).bind fun r18 =>
  some (.ret, ⟨[(7, (.v (Go.Value.int Go.IntKind.i64 2))), (17, r16.1), (9, r9.1), (8, r6.1), (7, (.v (Go.Value.int Go.IntKind.i64 0))), (6, r3.1), (4, r2.1), (3, r1.1), (0, a0), (1, a1), (2, a2)], r18.2⟩)) ((pv r16.2 (binA Try.prog .gtr 3 r6.1 r9.1)).bind fun r19 =>
  (gsel false r19.2 (pv r19.2 (fieldAddrA Try.prog 34 r2.1 2)) r19.1).bind fun r20 =>
  (gsel false r20.2 (pv r20.2 (loadA Try.prog 3 r20.2 r20.1)) r19.1).bind fun r21 =>
  (gsel false r21.2 (pv r21.2 (binA Try.prog .lss 3 r21.1 (.v (Go.Value.int Go.IntKind.i64 0)))) r19.1).bind fun r22 =>
  (pv r22.2 (pickA r19.1 (.v (Go.Value.bool true)) r22.1)).bind fun r23 =>
  (gsel false r23.2 (pv r23.2 (fieldAddrA Try.prog 34 r2.1 2)) r23.1).bind fun r24 =>
  (gsel false r24.2 (pv r24.2 (loadA Try.prog 3 r24.2 r24.1)) r23.1).bind fun r25 =>
  (gsel false r25.2 (some (r9.1, r25.2)) r23.1).bind fun r26 =>
  (gsel false r26.2 (some (r6.1, r26.2)) r23.1).bind fun r27 =>
  (gsel false r27.2 (pv r27.2 (binA Try.prog .sub 3 r26.1 r27.1)) r23.1).bind fun r28 =>
  (gsel false r28.2 (pv r28.2 (binA Try.prog .gtr 3 r25.1 r28.1)) r23.1).bind fun r29 =>
  (pv r29.2 (pickA r23.1 (.v (Go.Value.bool true)) r29.1)).bind fun r30 =>
  condA r30.1 ((pv r30.2 (loadA Try.prog 23 r30.2 r1.1)).bind fun r31 =>
  (stA Try.prog 23 r31.2 r3.1 r31.1).bind fun r32 =>
  some (.ret, ⟨[(7, (.v (Go.Value.int Go.IntKind.i64 2))), (27, r30.1), (17, r16.1), (9, r9.1), (8, r6.1), (7, (.v (Go.Value.int Go.IntKind.i64 0))), (6, r3.1), (4, r2.1), (3, r1.1), (0, a0), (1, a1), (2, a2)], r32.2⟩)) ((pv r30.2 (fieldAddrA Try.prog 34 r2.1 4)).bind fun r33 =>
  (pv r33.2 (loadA Try.prog 3 r33.2 r33.1)).bind fun r34 =>
  (pv r34.2 (binA Try.prog .eql 3 r34.1 (.v (Go.Value.int Go.IntKind.i64 0)))).bind fun r35 =>
  condA r35.1 ((pv r35.2 (fieldAddrA Try.prog 34 r2.1 2)).bind fun r36 =>
  (pv r36.2 (loadA Try.prog 3 r36.2 r36.1)).bind fun r37 =>
  (pv r37.2 (sliceA Try.prog r37.2 23 r1.1 (some r37.1) none none)).bind fun r38 =>
  (pv r38.2 (fieldAddrA Try.prog 34 r2.1 3)).bind fun r39 =>
  (pv r39.2 (loadA Try.prog 31 r39.2 r39.1)).bind fun r40 =>
  (copyA Try.prog r40.2 31 r38.1 r40.1).bind fun r41 =>
  (pv r41.2 (loadA Try.prog 23 r41.2 r1.1)).bind fun r42 =>
  (stA Try.prog 23 r42.2 r3.1 r42.1).bind fun r43 =>
  some (.ret, ⟨[(7, (.v (Go.Value.int Go.IntKind.i64 0))), (47, r35.1), (27, r30.1), (17, r16.1), (9, r9.1), (8, r6.1), (7, (.v (Go.Value.int Go.IntKind.i64 0))), (6, r3.1), (4, r2.1), (3, r1.1), (0, a0), (1, a1), (2, a2)], r43.2⟩)) ((pv r35.2 (loadA Try.prog 23 r35.2 r1.1)).bind fun r44 =>
  (pv r44.2 (fieldAddrA Try.prog 34 r2.1 4)).bind fun r45 =>
  (pv r45.2 (loadA Try.prog 3 r45.2 r45.1)).bind fun r46 =>
  (callA E md0 r46.2 15 [r44.1, r46.1]).bind fun r47 =>
  (allocA Try.prog r47.2 38).bind fun r48 =>
  (stA Try.prog 38 r48.2 r48.1 r47.1).bind fun r49 =>
  (pv r49.2 (fieldAddrA Try.prog 34 r2.1 2)).bind fun r50 =>
  (pv r50.2 (loadA Try.prog 3 r50.2 r50.1)).bind fun r51 =>
  (pv r51.2 (sliceA Try.prog r51.2 38 r48.1 (some r51.1) none none)).bind fun r52 =>
  (pv r52.2 (fieldAddrA Try.prog 34 r2.1 3)).bind fun r53 =>
  (pv r53.2 (loadA Try.prog 31 r53.2 r53.1)).bind fun r54 =>
  (copyA Try.prog r54.2 31 r52.1 r54.1).bind fun r55 =>
  (pv r55.2 (fieldAddrA Try.prog 34 r2.1 4)).bind fun r56 =>
  (pv r56.2 (loadA Try.prog 3 r56.2 r56.1)).bind fun r57 =>
  (pv r57.2 (loadA Try.prog 38 r57.2 r48.1)).bind fun r58 =>
  (callA E md0 r58.2 41 [r57.1, a2, r58.1]).bind fun r59 =>
  (pv r59.2 (tupA r59.1 0)).bind fun r60 =>
  (pv r60.2 (tupA r59.1 1)).bind fun r61 =>
  (stA Try.prog 23 r61.2 r3.1 r60.1).bind fun r62 =>
  some (.ret, ⟨[(7, r61.1), (10, r48.1), (47, r35.1), (27, r30.1), (17, r16.1), (9, r9.1), (8, r6.1), (7, (.v (Go.Value.int Go.IntKind.i64 0))), (6, r3.1), (4, r2.1), (3, r1.1), (0, a0), (1, a1), (2, a2)], r62.2⟩))))
theorem c_roll_Lay_eq : Try.f25.body = some c_roll_Lay := by kernel_rfl
theorem d_roll_Lay : drawsOk Try.prog md0 c_roll_Lay = true := by kernel_rfl
theorem F_roll_Lay_eq (E : FnA) (n n0 : Nat) (a0 a1 a2 : AV) (bx : Bx) : evK Try.prog md0 E 72 kp_roll_Lay n n0 c_roll_Lay ⟨[(0, a0), (1, a1), (2, a2)], bx⟩ (fun s => some (.normal, s)) (fun i s => some (.exit i, s)) = F_roll_Lay E n n0 a0 a1 a2 bx := by kernel_rfl

theorem E_roll_Lay (n : Nat) (a0 a1 a2 : AV) (bx : Bx) : evFn cx0 ext0 (n + 1) 25 [a0, a1, a2] bx = fin Try.prog [.cell 6 23, .tmp 7] (F_roll_Lay (evFn cx0 ext0 n) n bx.length a0 a1 a2 bx) := by
  rw [evFn_eq2 (cx := cx0) (c := c_roll_Lay) rfl Try.func25 c_roll_Lay_eq (of_decide_eq_true (by kernel_rfl)) d_roll_Lay (of_decide_eq_true (by kernel_rfl))]
  exact congrArg (fin Try.prog [.cell 6 23, .tmp 7]) (F_roll_Lay_eq (evFn cx0 ext0 n) n bx.length a0 a1 a2 bx)

/-- scupper/scupperlaw14.Few -/
def kp_l14_Few : Option (List Nat) := some [0, 1, 2]
noncomputable def c_l14_Few : Code := Try.f26.body.getD .skip
noncomputable def F_l14_Few (E : FnA) (_n _n0 : Nat) (a0 : AV) (bx : Bx) : Option (Ex × S) :=
  (boxA bx a0).bind fun r1 =>
  (allocA Try.prog r1.2 34).bind fun r2 =>
  (pv r2.2 (fieldAddrA Try.prog 34 r1.1 3)).bind fun r3 =>
  (pv r3.2 (loadA Try.prog 31 r3.2 r3.1)).bind fun r4 =>
  (pv r4.2 (fieldAddrA Try.prog 34 r1.1 3)).bind fun r5 =>
  (pv r5.2 (loadA Try.prog 31 r5.2 r5.1)).bind fun r6 =>
  (pv r6.2 (lenA Try.prog 31 r6.1)).bind fun r7 =>
  (pv r7.2 (minL false r7.1 [(.v (Go.Value.int Go.IntKind.i64 70))])).bind fun r8 =>
  (pv r8.2 (sliceA Try.prog r8.2 31 r4.1 none (some r8.1) none)).bind fun r9 =>
  (callA E md0 r9.2 42 [r9.1]).bind fun r10 =>
  (pv r10.2 (fieldAddrA Try.prog 34 r1.1 3)).bind fun r11 =>
  (stA Try.prog 31 r11.2 r11.1 r10.1).bind fun r12 =>
  (pv r12.2 (fieldAddrA Try.prog 34 r1.1 5)).bind fun r13 =>
  (pv r13.2 (loadA Try.prog 32 r13.2 r13.1)).bind fun r14 =>
  (pv r14.2 (fieldAddrA Try.prog 34 r1.1 5)).bind fun r15 =>
  (pv r15.2 (loadA Try.prog 32 r15.2 r15.1)).bind fun r16 =>
  (pv r16.2 (lenA Try.prog 32 r16.1)).bind fun r17 =>
  (pv r17.2 (minL false r17.1 [(.v (Go.Value.int Go.IntKind.i64 6))])).bind fun r18 =>
  (pv r18.2 (sliceA Try.prog r18.2 32 r14.1 none (some r18.1) none)).bind fun r19 =>
  (callA E md0 r19.2 19 [r19.1]).bind fun r20 =>
  (pv r20.2 (fieldAddrA Try.prog 34 r1.1 5)).bind fun r21 =>
  (stA Try.prog 32 r21.2 r21.1 r20.1).bind fun r22 =>
  (pv r22.2 (loadA Try.prog 34 r22.2 r1.1)).bind fun r23 =>
  (stA Try.prog 34 r23.2 r2.1 r23.1).bind fun r24 =>
  some (.ret, ⟨[(2, r2.1), (1, r1.1), (0, a0)], r24.2⟩)
theorem c_l14_Few_eq : Try.f26.body = some c_l14_Few := by kernel_rfl
theorem d_l14_Few : drawsOk Try.prog md0 c_l14_Few = true := by kernel_rfl
theorem F_l14_Few_eq (E : FnA) (n n0 : Nat) (a0 : AV) (bx : Bx) : evK Try.prog md0 E 22 kp_l14_Few n n0 c_l14_Few ⟨[(0, a0)], bx⟩ (fun s => some (.normal, s)) (fun i s => some (.exit i, s)) = F_l14_Few E n n0 a0 bx := by kernel_rfl

theorem E_l14_Few (n : Nat) (a0 : AV) (bx : Bx) : evFn cx0 ext0 (n + 1) 26 [a0] bx = fin Try.prog [.cell 2 34] (F_l14_Few (evFn cx0 ext0 n) n bx.length a0 bx) := by
  rw [evFn_eq2 (cx := cx0) (c := c_l14_Few) rfl Try.func26 c_l14_Few_eq (of_decide_eq_true (by kernel_rfl)) d_l14_Few (of_decide_eq_true (by kernel_rfl))]
  exact congrArg (fin Try.prog [.cell 2 34]) (F_l14_Few_eq (evFn cx0 ext0 n) n bx.length a0 bx)

/-- scupper/roll.over -/
def kp_roll_over : Option (List Nat) := some [0, 1, 2, 3, 6, 7, 8, 9, 11, 12, 13, 17, 18, 19, 20, 27, 36]
noncomputable def c_roll_over : Code := Try.f27.body.getD .skip
noncomputable def L_roll_over_0 (E : FnA) (_n _n0 : Nat) (s : S) : Option (Ex × S) :=
  (pv s.bx (binA Try.prog .lss 3 (get s.env 19) (get s.env 18))).bind fun r32 =>
  condA r32.1 ((pv r32.2 (indexAddrA Try.prog 24 (get (prune kp_roll_over s.env) 17) (get (prune kp_roll_over s.env) 19))).bind fun r33 =>
  (pv r33.2 (loadA Try.prog 34 r33.2 r33.1)).bind fun r34 =>
  (allocA Try.prog r34.2 34).bind fun r35 =>
  (stA Try.prog 34 r35.2 r35.1 r34.1).bind fun r36 =>
  (pv r36.2 (fieldAddrA Try.prog 34 r35.1 0)).bind fun r37 =>
  (pv r37.2 (loadA Try.prog 3 r37.2 r37.1)).bind fun r38 =>
  (callV E md0 r38.2 [r38.1] (get (prune kp_roll_over (prune kp_roll_over s.env)) 2)).bind fun r39 =>
  (pv r39.2 (unA .not r39.1)).bind fun r40 =>
  condA r40.1 ((pv r40.2 (binA Try.prog .add 3 (get (prune kp_roll_over (prune kp_roll_over (prune kp_roll_over s.env))) 19) (.v (Go.Value.int Go.IntKind.i64 1)))).bind fun r41 =>
  some (.normal, ⟨((19, r41.1) :: (27, r40.1) :: (11, r35.1) :: (20, r32.1) :: (prune kp_roll_over (prune kp_roll_over (prune kp_roll_over (prune kp_roll_over s.env))))), r41.2⟩)) ((pv r40.2 (loadA Try.prog 23 r40.2 (get (prune kp_roll_over (prune kp_roll_over (prune kp_roll_over s.env))) 8))).bind fun r42 =>
  (pv r42.2 (loadA Try.prog 34 r42.2 r35.1)).bind fun r43 =>
  (callA E md0 r43.2 25 [r42.1, r43.1, (get (prune kp_roll_over (prune kp_roll_over (prune kp_roll_over s.env))) 9)]).bind fun r44 =>
  (pv r44.2 (tupA r44.1 0)).bind fun r45 =>
  (pv r45.2 (tupA r44.1 1)).bind fun r46 =>
  (allocA Try.prog r46.2 23).bind fun r47 =>
  (stA Try.prog 23 r47.2 r47.1 r45.1).bind fun r48 =>
  (pv r48.2 (binA Try.prog .neq 28 r46.1 (.v (Go.Value.int Go.IntKind.i64 0)))).bind fun r49 =>
  condA r49.1 ((pv r49.2 (loadA Try.prog 23 r49.2 (get (prune kp_roll_over (prune kp_roll_over (prune kp_roll_over (prune kp_roll_over (prune kp_roll_over s.env))))) 3))).bind fun r50 =>
  (stA Try.prog 23 r50.2 (get (prune kp_roll_over (prune kp_roll_over (prune kp_roll_over (prune kp_roll_over (prune kp_roll_over s.env))))) 6) r50.1).bind fun r51 =>
  some (.ret, ⟨((7, r46.1) :: (36, r49.1) :: (13, r46.1) :: (12, r47.1) :: (27, r40.1) :: (11, r35.1) :: (20, r32.1) :: (prune kp_roll_over (prune kp_roll_over (prune kp_roll_over (prune kp_roll_over (prune kp_roll_over (prune kp_roll_over s.env))))))), r51.2⟩)) ((pv r49.2 (loadA Try.prog 23 r49.2 r47.1)).bind fun r52 =>
  (stA Try.prog 23 r52.2 (get (prune kp_roll_over (prune kp_roll_over (prune kp_roll_over (prune kp_roll_over (prune kp_roll_over s.env))))) 8) r52.1).bind fun r53 =>
  (pv r53.2 (binA Try.prog .add 3 (get (prune kp_roll_over (prune kp_roll_over (prune kp_roll_over (prune kp_roll_over (prune kp_roll_over (prune kp_roll_over s.env)))))) 19) (.v (Go.Value.int Go.IntKind.i64 1)))).bind fun r54 =>
  some (.normal, ⟨((19, r54.1) :: (36, r49.1) :: (13, r46.1) :: (12, r47.1) :: (27, r40.1) :: (11, r35.1) :: (20, r32.1) :: (prune kp_roll_over (prune kp_roll_over (prune kp_roll_over (prune kp_roll_over (prune kp_roll_over (prune kp_roll_over (prune kp_roll_over s.env)))))))), r54.2⟩)))) (some (.exit 0, ⟨((20, r32.1) :: (prune kp_roll_over s.env)), r32.2⟩))
noncomputable def B_roll_over_0 (E : FnA) (_n _n0 : Nat) (x19 x18 x17 x9 x8 x7 x6 x3 x0 x1 x2 : AV) (y : Bx) : Option (Ex × S) :=
  (pv y (binA Try.prog .lss 3 x19 x18)).bind fun r9 =>
  condA r9.1 ((pv r9.2 (indexAddrA Try.prog 24 x17 x19)).bind fun r10 =>
  (pv r10.2 (loadA Try.prog 34 r10.2 r10.1)).bind fun r11 =>
  (allocA Try.prog r11.2 34).bind fun r12 =>
  (stA Try.prog 34 r12.2 r12.1 r11.1).bind fun r13 =>
  (pv r13.2 (fieldAddrA Try.prog 34 r12.1 0)).bind fun r14 =>
  (pv r14.2 (loadA Try.prog 3 r14.2 r14.1)).bind fun r15 =>
  (callV E md0 r15.2 [r15.1] x2).bind fun r16 =>
  (pv r16.2 (unA .not r16.1)).bind fun r17 =>
  condA r17.1 ((pv r17.2 (binA Try.prog .add 3 x19 (.v (Go.Value.int Go.IntKind.i64 1)))).bind fun r18 =>
  some (.normal, ⟨[(19, r18.1), (27, r17.1), (11, r12.1), (20, r9.1), (19, x19), (18, x18), (17, x17), (9, x9), (8, x8), (7, x7), (6, x6), (3, x3), (0, x0), (1, x1), (2, x2)], r18.2⟩)) ((pv r17.2 (loadA Try.prog 23 r17.2 x8)).bind fun r19 =>
  (pv r19.2 (loadA Try.prog 34 r19.2 r12.1)).bind fun r20 =>
  (callA E md0 r20.2 25 [r19.1, r20.1, x9]).bind fun r21 =>
  (pv r21.2 (tupA r21.1 0)).bind fun r22 =>
  (pv r22.2 (tupA r21.1 1)).bind fun r23 =>
  (allocA Try.prog r23.2 23).bind fun r24 =>
  (stA Try.prog 23 r24.2 r24.1 r22.1).bind fun r25 =>
  (pv r25.2 (binA Try.prog .neq 28 r23.1 (.v (Go.Value.int Go.IntKind.i64 0)))).bind fun r26 =>
  condA r26.1 ((pv r26.2 (loadA Try.prog 23 r26.2 x3)).bind fun r27 =>
  (stA Try.prog 23 r27.2 x6 r27.1).bind fun r28 =>
  some (.ret, ⟨[(7, r23.1), (36, r26.1), (13, r23.1), (12, r24.1), (27, r17.1), (11, r12.1), (20, r9.1), (19, x19), (18, x18), (17, x17), (9, x9), (8, x8), (7, x7), (6, x6), (3, x3), (0, x0), (1, x1), (2, x2)], r28.2⟩)) ((pv r26.2 (loadA Try.prog 23 r26.2 r24.1)).bind fun r29 =>
  (stA Try.prog 23 r29.2 x8 r29.1).bind fun r30 =>
  (pv r30.2 (binA Try.prog .add 3 x19 (.v (Go.Value.int Go.IntKind.i64 1)))).bind fun r31 =>
  some (.normal, ⟨[(19, r31.1), (36, r26.1), (13, r23.1), (12, r24.1), (27, r17.1), (11, r12.1), (20, r9.1), (19, x19), (18, x18), (17, x17), (9, x9), (8, x8), (7, x7), (6, x6), (3, x3), (0, x0), (1, x1), (2, x2)], r31.2⟩)))) (some (.exit 0, ⟨[(20, r9.1), (19, x19), (18, x18), (17, x17), (9, x9), (8, x8), (7, x7), (6, x6), (3, x3), (0, x0), (1, x1), (2, x2)], r9.2⟩))
theorem L_roll_over_0_lit {E : FnA} {n n0 : Nat} {x19 x18 x17 x9 x8 x7 x6 x3 x0 x1 x2 : AV} {y : Bx} {Q : Ex → S → Prop} (h : Ends (B_roll_over_0 E n n0 x19 x18 x17 x9 x8 x7 x6 x3 x0 x1 x2 y) Q) : Ends (L_roll_over_0 E n n0 ⟨[(19, x19), (18, x18), (17, x17), (9, x9), (8, x8), (7, x7), (6, x6), (3, x3), (0, x0), (1, x1), (2, x2)], y⟩) Q := by
  rw [show L_roll_over_0 E n n0 ⟨[(19, x19), (18, x18), (17, x17), (9, x9), (8, x8), (7, x7), (6, x6), (3, x3), (0, x0), (1, x1), (2, x2)], y⟩ = B_roll_over_0 E n n0 x19 x18 x17 x9 x8 x7 x6 x3 x0 x1 x2 y by kernel_rfl]
  exact h
noncomputable def K_roll_over_0 (_E : FnA) (_n _n0 : Nat) (t : S) : Option (Ex × S) :=
  (pv t.bx (loadA Try.prog 23 t.bx (get t.env 8))).bind fun r57 =>
  (stA Try.prog 23 r57.2 (get t.env 6) r57.1).bind fun r58 =>
  some (.ret, ⟨((7, (.v (Go.Value.int Go.IntKind.i64 0))) :: (prune kp_roll_over t.env)), r58.2⟩)
noncomputable def X_roll_over_0 (_E : FnA) (_n _n0 : Nat) (i : Nat) (t : S) : Option (Ex × S) :=
  if i = 0 then (pv t.bx (loadA Try.prog 23 t.bx (get t.env 8))).bind fun r55 =>
  (stA Try.prog 23 r55.2 (get t.env 6) r55.1).bind fun r56 =>
  some (.ret, ⟨((7, (.v (Go.Value.int Go.IntKind.i64 0))) :: (prune kp_roll_over t.env)), r56.2⟩) else some (.exit i, ⟨t.env, t.bx⟩)
noncomputable def X_roll_over_0_0 (_E : FnA) (_n _n0 : Nat) (x20 x19 x18 x17 x9 x8 x7 x6 x3 x0 x1 x2 : AV) (y : Bx) : Option (Ex × S) :=
  (pv y (loadA Try.prog 23 y x8)).bind fun r59 =>
  (stA Try.prog 23 r59.2 x6 r59.1).bind fun r60 =>
  some (.ret, ⟨[(7, (.v (Go.Value.int Go.IntKind.i64 0))), (20, x20), (19, x19), (18, x18), (17, x17), (9, x9), (8, x8), (7, x7), (6, x6), (3, x3), (0, x0), (1, x1), (2, x2)], r60.2⟩)
theorem X_roll_over_0_0_lit {E : FnA} {n n0 : Nat} {x20 x19 x18 x17 x9 x8 x7 x6 x3 x0 x1 x2 : AV} {y : Bx} {Q : Ex → S → Prop} (h : Ends (X_roll_over_0_0 E n n0 x20 x19 x18 x17 x9 x8 x7 x6 x3 x0 x1 x2 y) Q) : Ends (X_roll_over_0 E n n0 0 ⟨[(20, x20), (19, x19), (18, x18), (17, x17), (9, x9), (8, x8), (7, x7), (6, x6), (3, x3), (0, x0), (1, x1), (2, x2)], y⟩) Q := by
  rw [show X_roll_over_0 E n n0 0 ⟨[(20, x20), (19, x19), (18, x18), (17, x17), (9, x9), (8, x8), (7, x7), (6, x6), (3, x3), (0, x0), (1, x1), (2, x2)], y⟩ = X_roll_over_0_0 E n n0 x20 x19 x18 x17 x9 x8 x7 x6 x3 x0 x1 x2 y by kernel_rfl]
  exact h
noncomputable def F_roll_over (E : FnA) (n n0 : Nat) (a0 a1 a2 : AV) (bx : Bx) : Option (Ex × S) :=
  (boxA bx a0).bind fun r1 =>
  (allocA Try.prog r1.2 23).bind fun r2 =>
  (allocA Try.prog r2.2 23).bind fun r3 =>
  (pv r3.2 (loadA Try.prog 23 r3.2 r1.1)).bind fun r4 =>
  (pv r4.2 (loadA Try.prog 23 r4.2 r1.1)).bind fun r5 =>
  (callA E md0 r5.2 13 [r5.1]).bind fun r6 =>
  (stA Try.prog 23 r6.2 r3.1 r4.1).bind fun r7 =>
  (pv r7.2 (lenA Try.prog 24 a1)).bind fun r8 =>
  exitA (iter (head ⟨[(19, (.v (Go.Value.int Go.IntKind.i64 0))), (18, r8.1), (17, a1), (9, r6.1), (8, r3.1), (7, (.v (Go.Value.int Go.IntKind.i64 0))), (6, r2.1), (3, r1.1), (0, a0), (1, a1), (2, a2)], r8.2⟩) (L_roll_over_0 E n n0) n ⟨[(19, (.v (Go.Value.int Go.IntKind.i64 0))), (18, r8.1), (17, a1), (9, r6.1), (8, r3.1), (7, (.v (Go.Value.int Go.IntKind.i64 0))), (6, r2.1), (3, r1.1), (0, a0), (1, a1), (2, a2)], r8.2⟩) (K_roll_over_0 E n n0) (X_roll_over_0 E n n0)
theorem c_roll_over_eq : Try.f27.body = some c_roll_over := by kernel_rfl
theorem d_roll_over : drawsOk Try.prog md0 c_roll_over = true := by kernel_rfl
theorem F_roll_over_eq (E : FnA) (n n0 : Nat) (a0 a1 a2 : AV) (bx : Bx) : evK Try.prog md0 E 42 kp_roll_over n n0 c_roll_over ⟨[(0, a0), (1, a1), (2, a2)], bx⟩ (fun s => some (.normal, s)) (fun i s => some (.exit i, s)) = F_roll_over E n n0 a0 a1 a2 bx := by kernel_rfl

theorem E_roll_over (n : Nat) (a0 a1 a2 : AV) (bx : Bx) : evFn cx0 ext0 (n + 1) 27 [a0, a1, a2] bx = fin Try.prog [.cell 6 23, .tmp 7] (F_roll_over (evFn cx0 ext0 n) n bx.length a0 a1 a2 bx) := by
  rw [evFn_eq2 (cx := cx0) (c := c_roll_over) rfl Try.func27 c_roll_over_eq (of_decide_eq_true (by kernel_rfl)) d_roll_over (of_decide_eq_true (by kernel_rfl))]
  exact congrArg (fin Try.prog [.cell 6 23, .tmp 7]) (F_roll_over_eq (evFn cx0 ext0 n) n bx.length a0 a1 a2 bx)

/-- scupper/roll.Now$1 -/
def kp_roll_Now_1 : Option (List Nat) := some [2]
noncomputable def c_roll_Now_1 : Code := Try.f28.body.getD .skip
noncomputable def F_roll_Now_1 (_E : FnA) (_n _n0 : Nat) (_a0 : AV) (bx : Bx) : Option (Ex × S) :=
  some (.ret, ⟨[(2, (.v (Go.Value.bool true))), (2, (.v (Go.Value.bool false)))], bx⟩)
theorem c_roll_Now_1_eq : Try.f28.body = some c_roll_Now_1 := by kernel_rfl
theorem d_roll_Now_1 : drawsOk Try.prog md0 c_roll_Now_1 = true := by kernel_rfl
theorem F_roll_Now_1_eq (E : FnA) (n n0 : Nat) (a0 : AV) (bx : Bx) : evK Try.prog md0 E 3 kp_roll_Now_1 n n0 c_roll_Now_1 ⟨[(0, a0)], bx⟩ (fun s => some (.normal, s)) (fun i s => some (.exit i, s)) = F_roll_Now_1 E n n0 a0 bx := by kernel_rfl

theorem E_roll_Now_1 (n : Nat) (a0 : AV) (bx : Bx) : evFn cx0 ext0 (n + 1) 28 [a0] bx = fin Try.prog [.tmp 2] (F_roll_Now_1 (evFn cx0 ext0 n) n bx.length a0 bx) := by
  rw [evFn_eq2 (cx := cx0) (c := c_roll_Now_1) rfl Try.func28 c_roll_Now_1_eq (of_decide_eq_true (by kernel_rfl)) d_roll_Now_1 (of_decide_eq_true (by kernel_rfl))]
  exact congrArg (fin Try.prog [.tmp 2]) (F_roll_Now_1_eq (evFn cx0 ext0 n) n bx.length a0 bx)

/-- scupper/scupperref07.Kind -/
def kp_r07_Kind : Option (List Nat) := some [0, 1, 2, 3, 6, 8, 19]
noncomputable def c_r07_Kind : Code := Try.f29.body.getD .skip
noncomputable def L_r07_Kind_0 (E : FnA) (_n _n0 : Nat) (s : S) : Option (Ex × S) :=
  (pv s.bx (binA Try.prog .lss 3 (get s.env 3) (.v (Go.Value.int Go.IntKind.i64 7)))).bind fun r12 =>
  condA r12.1 ((pv r12.2 (loadA Try.prog 23 r12.2 (get (prune kp_r07_Kind s.env) 1))).bind fun r13 =>
  (callA E md0 r13.2 12 [(get (prune kp_r07_Kind s.env) 3), r13.1]).bind fun r14 =>
  (pv r14.2 (tupA r14.1 0)).bind fun r15 =>
  (pv r15.2 (tupA r14.1 1)).bind fun r16 =>
  (pv r16.2 (tupA r14.1 2)).bind fun r17 =>
  (allocA Try.prog r17.2 38).bind fun r18 =>
  (stA Try.prog 38 r18.2 r18.1 r15.1).bind fun r19 =>
  (pv r19.2 (binA Try.prog .eql 28 r17.1 (.v (Go.Value.int Go.IntKind.i64 0)))).bind fun r20 =>
  condA r20.1 (some (.ret, ⟨((2, (get (prune kp_r07_Kind (prune kp_r07_Kind (prune kp_r07_Kind s.env))) 3)) :: (19, r20.1) :: (6, r17.1) :: (8, r12.1) :: (prune kp_r07_Kind (prune kp_r07_Kind (prune kp_r07_Kind (prune kp_r07_Kind s.env))))), r20.2⟩)) ((pv r20.2 (binA Try.prog .add 3 (get (prune kp_r07_Kind (prune kp_r07_Kind (prune kp_r07_Kind s.env))) 3) (.v (Go.Value.int Go.IntKind.i64 1)))).bind fun r21 =>
  some (.normal, ⟨((3, r21.1) :: (19, r20.1) :: (6, r17.1) :: (8, r12.1) :: (prune kp_r07_Kind (prune kp_r07_Kind (prune kp_r07_Kind (prune kp_r07_Kind s.env))))), r21.2⟩))) (some (.exit 0, ⟨((8, r12.1) :: (prune kp_r07_Kind s.env)), r12.2⟩))
noncomputable def B_r07_Kind_0 (E : FnA) (_n _n0 : Nat) (x3 x2 x1 x0 : AV) (y : Bx) : Option (Ex × S) :=
  (pv y (binA Try.prog .lss 3 x3 (.v (Go.Value.int Go.IntKind.i64 7)))).bind fun r2 =>
  condA r2.1 ((pv r2.2 (loadA Try.prog 23 r2.2 x1)).bind fun r3 =>
  (callA E md0 r3.2 12 [x3, r3.1]).bind fun r4 =>
  (pv r4.2 (tupA r4.1 0)).bind fun r5 =>
  (pv r5.2 (tupA r4.1 1)).bind fun r6 =>
  (pv r6.2 (tupA r4.1 2)).bind fun r7 =>
  (allocA Try.prog r7.2 38).bind fun r8 =>
  (stA Try.prog 38 r8.2 r8.1 r5.1).bind fun r9 =>
  (pv r9.2 (binA Try.prog .eql 28 r7.1 (.v (Go.Value.int Go.IntKind.i64 0)))).bind fun r10 =>
  condA r10.1 (some (.ret, ⟨[(2, x3), (19, r10.1), (6, r7.1), (8, r2.1), (3, x3), (2, x2), (1, x1), (0, x0)], r10.2⟩)) ((pv r10.2 (binA Try.prog .add 3 x3 (.v (Go.Value.int Go.IntKind.i64 1)))).bind fun r11 =>
  some (.normal, ⟨[(3, r11.1), (19, r10.1), (6, r7.1), (8, r2.1), (3, x3), (2, x2), (1, x1), (0, x0)], r11.2⟩))) (some (.exit 0, ⟨[(8, r2.1), (3, x3), (2, x2), (1, x1), (0, x0)], r2.2⟩))
theorem L_r07_Kind_0_lit {E : FnA} {n n0 : Nat} {x3 x2 x1 x0 : AV} {y : Bx} {Q : Ex → S → Prop} (h : Ends (B_r07_Kind_0 E n n0 x3 x2 x1 x0 y) Q) : Ends (L_r07_Kind_0 E n n0 ⟨[(3, x3), (2, x2), (1, x1), (0, x0)], y⟩) Q := by
  rw [show L_r07_Kind_0 E n n0 ⟨[(3, x3), (2, x2), (1, x1), (0, x0)], y⟩ = B_r07_Kind_0 E n n0 x3 x2 x1 x0 y by kernel_rfl]
  exact h
noncomputable def K_r07_Kind_0 (_E : FnA) (_n _n0 : Nat) (t : S) : Option (Ex × S) :=
  some (.ret, ⟨((2, (.v (Go.Value.int Go.IntKind.i64 0))) :: (prune kp_r07_Kind t.env)), t.bx⟩)
noncomputable def X_r07_Kind_0 (_E : FnA) (_n _n0 : Nat) (i : Nat) (t : S) : Option (Ex × S) :=
  if i = 0 then some (.ret, ⟨((2, (.v (Go.Value.int Go.IntKind.i64 0))) :: (prune kp_r07_Kind t.env)), t.bx⟩) else some (.exit i, ⟨t.env, t.bx⟩)
noncomputable def X_r07_Kind_0_0 (_E : FnA) (_n _n0 : Nat) (x8 x3 x2 x1 x0 : AV) (y : Bx) : Option (Ex × S) :=
  some (.ret, ⟨[(2, (.v (Go.Value.int Go.IntKind.i64 0))), (8, x8), (3, x3), (2, x2), (1, x1), (0, x0)], y⟩)
theorem X_r07_Kind_0_0_lit {E : FnA} {n n0 : Nat} {x8 x3 x2 x1 x0 : AV} {y : Bx} {Q : Ex → S → Prop} (h : Ends (X_r07_Kind_0_0 E n n0 x8 x3 x2 x1 x0 y) Q) : Ends (X_r07_Kind_0 E n n0 0 ⟨[(8, x8), (3, x3), (2, x2), (1, x1), (0, x0)], y⟩) Q := by
  rw [show X_r07_Kind_0 E n n0 0 ⟨[(8, x8), (3, x3), (2, x2), (1, x1), (0, x0)], y⟩ = X_r07_Kind_0_0 E n n0 x8 x3 x2 x1 x0 y by kernel_rfl]
  exact h
noncomputable def F_r07_Kind (E : FnA) (n n0 : Nat) (a0 : AV) (bx : Bx) : Option (Ex × S) :=
  (boxA bx a0).bind fun r1 =>
  exitA (iter (head ⟨[(3, (.v (Go.Value.int Go.IntKind.i64 1))), (2, (.v (Go.Value.int Go.IntKind.i64 0))), (1, r1.1), (0, a0)], r1.2⟩) (L_r07_Kind_0 E n n0) n ⟨[(3, (.v (Go.Value.int Go.IntKind.i64 1))), (2, (.v (Go.Value.int Go.IntKind.i64 0))), (1, r1.1), (0, a0)], r1.2⟩) (K_r07_Kind_0 E n n0) (X_r07_Kind_0 E n n0)
theorem c_r07_Kind_eq : Try.f29.body = some c_r07_Kind := by kernel_rfl
theorem d_r07_Kind : drawsOk Try.prog md0 c_r07_Kind = true := by kernel_rfl
theorem F_r07_Kind_eq (E : FnA) (n n0 : Nat) (a0 : AV) (bx : Bx) : evK Try.prog md0 E 21 kp_r07_Kind n n0 c_r07_Kind ⟨[(0, a0)], bx⟩ (fun s => some (.normal, s)) (fun i s => some (.exit i, s)) = F_r07_Kind E n n0 a0 bx := by kernel_rfl

theorem E_r07_Kind (n : Nat) (a0 : AV) (bx : Bx) : evFn cx0 ext0 (n + 1) 29 [a0] bx = fin Try.prog [.tmp 2] (F_r07_Kind (evFn cx0 ext0 n) n bx.length a0 bx) := by
  rw [evFn_eq2 (cx := cx0) (c := c_r07_Kind) rfl Try.func29 c_r07_Kind_eq (of_decide_eq_true (by kernel_rfl)) d_r07_Kind (of_decide_eq_true (by kernel_rfl))]
  exact congrArg (fin Try.prog [.tmp 2]) (F_r07_Kind_eq (evFn cx0 ext0 n) n bx.length a0 bx)

/-- scupper/scupperref07.may -/
def kp_r07_may : Option (List Nat) := some [0, 2]
noncomputable def c_r07_may : Code := Try.f30.body.getD .skip
noncomputable def F_r07_may (_E : FnA) (_n _n0 : Nat) (a0 : AV) (bx : Bx) : Option (Ex × S) :=
  (pv bx (binA Try.prog .geq 3 a0 (.v (Go.Value.int Go.IntKind.i64 1)))).bind fun r1 =>
  (gsel true r1.2 (some (a0, r1.2)) r1.1).bind fun r2 =>
  (gsel true r2.2 (pv r2.2 (binA Try.prog .leq 3 r2.1 (.v (Go.Value.int Go.IntKind.i64 6)))) r1.1).bind fun r3 =>
  (pv r3.2 (pickA r1.1 r3.1 (.v (Go.Value.bool false)))).bind fun r4 =>
  some (.ret, ⟨[(2, r4.1), (2, (.v (Go.Value.bool false))), (0, a0)], r4.2⟩)
theorem c_r07_may_eq : Try.f30.body = some c_r07_may := by kernel_rfl
theorem d_r07_may : drawsOk Try.prog md0 c_r07_may = true := by kernel_rfl
theorem F_r07_may_eq (E : FnA) (n n0 : Nat) (a0 : AV) (bx : Bx) : evK Try.prog md0 E 9 kp_r07_may n n0 c_r07_may ⟨[(0, a0)], bx⟩ (fun s => some (.normal, s)) (fun i s => some (.exit i, s)) = F_r07_may E n n0 a0 bx := by kernel_rfl

theorem E_r07_may (n : Nat) (a0 : AV) (bx : Bx) : evFn cx0 ext0 (n + 1) 30 [a0] bx = fin Try.prog [.tmp 2] (F_r07_may (evFn cx0 ext0 n) n bx.length a0 bx) := by
  rw [evFn_eq2 (cx := cx0) (c := c_r07_may) rfl Try.func30 c_r07_may_eq (of_decide_eq_true (by kernel_rfl)) d_r07_may (of_decide_eq_true (by kernel_rfl))]
  exact congrArg (fin Try.prog [.tmp 2]) (F_r07_may_eq (evFn cx0 ext0 n) n bx.length a0 bx)

/-- scupper/scupperref01.Get32 -/
def kp_r01_Get32 : Option (List Nat) := some [0, 1, 4, 5, 6, 7]
noncomputable def c_r01_Get32 : Code := Try.f31.body.getD .skip
noncomputable def F_r01_Get32 (E : FnA) (_n _n0 : Nat) (a0 a1 : AV) (bx : Bx) : Option (Ex × S) :=
  (callA E md0 bx 43 [a0, a1, (.v (Go.Value.int Go.IntKind.i64 4))]).bind fun r1 =>
  (pv r1.2 (tupA r1.1 0)).bind fun r2 =>
  (pv r2.2 (tupA r1.1 1)).bind fun r3 =>
  (convA Try.prog r3.2 55 39 r2.1).bind fun r4 =>
  some (.ret, ⟨[(5, r3.1), (4, r4.1), (7, r3.1), (6, r2.1), (5, (.v (Go.Value.int Go.IntKind.i64 0))), (4, (.v (Go.Value.int Go.IntKind.u32 0))), (0, a0), (1, a1)], r4.2⟩)
theorem c_r01_Get32_eq : Try.f31.body = some c_r01_Get32 := by kernel_rfl
theorem d_r01_Get32 : drawsOk Try.prog md0 c_r01_Get32 = true := by kernel_rfl
theorem F_r01_Get32_eq (E : FnA) (n n0 : Nat) (a0 a1 : AV) (bx : Bx) : evK Try.prog md0 E 17 kp_r01_Get32 n n0 c_r01_Get32 ⟨[(0, a0), (1, a1)], bx⟩ (fun s => some (.normal, s)) (fun i s => some (.exit i, s)) = F_r01_Get32 E n n0 a0 a1 bx := by kernel_rfl

theorem E_r01_Get32 (n : Nat) (a0 a1 : AV) (bx : Bx) : evFn cx0 ext0 (n + 1) 31 [a0, a1] bx = fin Try.prog [.tmp 4, .tmp 5] (F_r01_Get32 (evFn cx0 ext0 n) n bx.length a0 a1 bx) := by
  rw [evFn_eq2 (cx := cx0) (c := c_r01_Get32) rfl Try.func31 c_r01_Get32_eq (of_decide_eq_true (by kernel_rfl)) d_r01_Get32 (of_decide_eq_true (by kernel_rfl))]
  exact congrArg (fin Try.prog [.tmp 4, .tmp 5]) (F_r01_Get32_eq (evFn cx0 ext0 n) n bx.length a0 a1 bx)

/-- scupper/scupperref02.Of -/
def kp_r02_Of : Option (List Nat) := some [0, 2]
noncomputable def c_r02_Of : Code := Try.f32.body.getD .skip
noncomputable def F_r02_Of (E : FnA) (_n _n0 : Nat) (a0 : AV) (bx : Bx) : Option (Ex × S) :=
  (callA E md0 bx 44 [(.v (Go.Value.int Go.IntKind.u32 4294967295)), a0]).bind fun r1 =>
  (pv r1.2 (binA Try.prog .sub 39 (.v (Go.Value.int Go.IntKind.u32 4294967295)) r1.1)).bind fun r2 =>
  some (.ret, ⟨[(2, r2.1), (2, (.v (Go.Value.int Go.IntKind.u32 0))), (0, a0)], r2.2⟩)
theorem c_r02_Of_eq : Try.f32.body = some c_r02_Of := by kernel_rfl
theorem d_r02_Of : drawsOk Try.prog md0 c_r02_Of = true := by kernel_rfl
theorem F_r02_Of_eq (E : FnA) (n n0 : Nat) (a0 : AV) (bx : Bx) : evK Try.prog md0 E 6 kp_r02_Of n n0 c_r02_Of ⟨[(0, a0)], bx⟩ (fun s => some (.normal, s)) (fun i s => some (.exit i, s)) = F_r02_Of E n n0 a0 bx := by kernel_rfl

theorem E_r02_Of (n : Nat) (a0 : AV) (bx : Bx) : evFn cx0 ext0 (n + 1) 32 [a0] bx = fin Try.prog [.tmp 2] (F_r02_Of (evFn cx0 ext0 n) n bx.length a0 bx) := by
  rw [evFn_eq2 (cx := cx0) (c := c_r02_Of) rfl Try.func32 c_r02_Of_eq (of_decide_eq_true (by kernel_rfl)) d_r02_Of (of_decide_eq_true (by kernel_rfl))]
  exact congrArg (fin Try.prog [.tmp 2]) (F_r02_Of_eq (evFn cx0 ext0 n) n bx.length a0 bx)

/-- scupper/seal.Get -/
def kp_seal_Get : Option (List Nat) := some [0, 1, 3, 4, 5, 6, 7, 12]
noncomputable def c_seal_Get : Code := Try.f33.body.getD .skip
noncomputable def F_seal_Get (E : FnA) (_n _n0 : Nat) (a0 a1 : AV) (bx : Bx) : Option (Ex × S) :=
  (boxA bx a1).bind fun r1 =>
  (allocA Try.prog r1.2 38).bind fun r2 =>
  (callA E md0 r2.2 45 [a0]).bind fun r3 =>
  (pv r3.2 (unA .not r3.1)).bind fun r4 =>
  condA r4.1 ((pv r4.2 (buildA Try.prog 38 [])).bind fun r5 =>
  (stA Try.prog 38 r5.2 r2.1 r5.1).bind fun r6 =>
  some (.ret, ⟨[(6, (.v (Go.Value.int Go.IntKind.i64 2))), (5, (.v (Go.Value.int Go.IntKind.u32 0))), (7, r4.1), (6, (.v (Go.Value.int Go.IntKind.i64 0))), (5, (.v (Go.Value.int Go.IntKind.u32 0))), (4, r2.1), (3, r1.1), (0, a0), (1, a1)], r6.2⟩)) ((pv r4.2 (indexAddrA Try.prog 23 r1.1 (.v (Go.Value.int Go.IntKind.i64 54)))).bind fun r7 =>
  (pv r7.2 (loadA Try.prog 5 r7.2 r7.1)).bind fun r8 =>
  (convA Try.prog r8.2 5 3 r8.1).bind fun r9 =>
  (pv r9.2 (binA Try.prog .neq 3 r9.1 a0)).bind fun r10 =>
  (gsel false r10.2 (pv r10.2 (loadA Try.prog 23 r10.2 r1.1)) r10.1).bind fun r11 =>
  (gsel false r11.2 (callA E md0 r11.2 46 [r11.1]) r10.1).bind fun r12 =>
  (gsel false r12.2 (pv r12.2 (unA .not r12.1)) r10.1).bind fun r13 =>
  (pv r13.2 (pickA r10.1 (.v (Go.Value.bool true)) r13.1)).bind fun r14 =>
  condA r14.1 ((pv r14.2 (buildA Try.prog 38 [])).bind fun r15 =>
  (stA Try.prog 38 r15.2 r2.1 r15.1).bind fun r16 =>
  some (.ret, ⟨[(6, (.v (Go.Value.int Go.IntKind.i64 21))), (5, (.v (Go.Value.int Go.IntKind.u32 0))), (12, r14.1), (7, r4.1), (6, (.v (Go.Value.int Go.IntKind.i64 0))), (5, (.v (Go.Value.int Go.IntKind.u32 0))), (4, r2.1), (3, r1.1), (0, a0), (1, a1)], r16.2⟩)) ((pv r14.2 (sliceA Try.prog r14.2 23 r1.1 none (some (.v (Go.Value.int Go.IntKind.i64 54))) none)).bind fun r17 =>
  (pv r17.2 (arrPtrA Try.prog 38 r17.1)).bind fun r18 =>
  (pv r18.2 (loadA Try.prog 38 r18.2 r18.1)).bind fun r19 =>
  (pv r19.2 (loadA Try.prog 23 r19.2 r1.1)).bind fun r20 =>
  (callA E md0 r20.2 47 [r20.1]).bind fun r21 =>
  (stA Try.prog 38 r21.2 r2.1 r19.1).bind fun r22 =>
  some (.ret, ⟨[(6, (.v (Go.Value.int Go.IntKind.i64 0))), (5, r21.1), (12, r14.1), (7, r4.1), (6, (.v (Go.Value.int Go.IntKind.i64 0))), (5, (.v (Go.Value.int Go.IntKind.u32 0))), (4, r2.1), (3, r1.1), (0, a0), (1, a1)], r22.2⟩)))
theorem c_seal_Get_eq : Try.f33.body = some c_seal_Get := by kernel_rfl
theorem d_seal_Get : drawsOk Try.prog md0 c_seal_Get = true := by kernel_rfl
theorem F_seal_Get_eq (E : FnA) (n n0 : Nat) (a0 a1 : AV) (bx : Bx) : evK Try.prog md0 E 29 kp_seal_Get n n0 c_seal_Get ⟨[(0, a0), (1, a1)], bx⟩ (fun s => some (.normal, s)) (fun i s => some (.exit i, s)) = F_seal_Get E n n0 a0 a1 bx := by kernel_rfl

theorem E_seal_Get (n : Nat) (a0 a1 : AV) (bx : Bx) : evFn cx0 ext0 (n + 1) 33 [a0, a1] bx = fin Try.prog [.cell 4 38, .tmp 5, .tmp 6] (F_seal_Get (evFn cx0 ext0 n) n bx.length a0 a1 bx) := by
  rw [evFn_eq2 (cx := cx0) (c := c_seal_Get) rfl Try.func33 c_seal_Get_eq (of_decide_eq_true (by kernel_rfl)) d_seal_Get (of_decide_eq_true (by kernel_rfl))]
  exact congrArg (fin Try.prog [.cell 4 38, .tmp 5, .tmp 6]) (F_seal_Get_eq (evFn cx0 ext0 n) n bx.length a0 a1 bx)

/-- scupper/seal.Kind -/
def kp_seal_Kind : Option (List Nat) := some [0, 1, 2, 5]
noncomputable def c_seal_Kind : Code := Try.f34.body.getD .skip
noncomputable def F_seal_Kind (E : FnA) (_n _n0 : Nat) (a0 : AV) (bx : Bx) : Option (Ex × S) :=
  (boxA bx a0).bind fun r1 =>
  (pv r1.2 (loadA Try.prog 23 r1.2 r1.1)).bind fun r2 =>
  (callA E md0 r2.2 46 [r2.1]).bind fun r3 =>
  (pv r3.2 (unA .not r3.1)).bind fun r4 =>
  condA r4.1 (some (.ret, ⟨[(2, (.v (Go.Value.int Go.IntKind.i64 0))), (5, r4.1), (2, (.v (Go.Value.int Go.IntKind.i64 0))), (1, r1.1), (0, a0)], r4.2⟩)) ((pv r4.2 (indexAddrA Try.prog 23 r1.1 (.v (Go.Value.int Go.IntKind.i64 54)))).bind fun r5 =>
  (pv r5.2 (loadA Try.prog 5 r5.2 r5.1)).bind fun r6 =>
  (convA Try.prog r6.2 5 3 r6.1).bind fun r7 =>
  some (.ret, ⟨[(2, r7.1), (5, r4.1), (2, (.v (Go.Value.int Go.IntKind.i64 0))), (1, r1.1), (0, a0)], r7.2⟩))
theorem c_seal_Kind_eq : Try.f34.body = some c_seal_Kind := by kernel_rfl
theorem d_seal_Kind : drawsOk Try.prog md0 c_seal_Kind = true := by kernel_rfl
theorem F_seal_Kind_eq (E : FnA) (n n0 : Nat) (a0 : AV) (bx : Bx) : evK Try.prog md0 E 9 kp_seal_Kind n n0 c_seal_Kind ⟨[(0, a0)], bx⟩ (fun s => some (.normal, s)) (fun i s => some (.exit i, s)) = F_seal_Kind E n n0 a0 bx := by kernel_rfl

theorem E_seal_Kind (n : Nat) (a0 : AV) (bx : Bx) : evFn cx0 ext0 (n + 1) 34 [a0] bx = fin Try.prog [.tmp 2] (F_seal_Kind (evFn cx0 ext0 n) n bx.length a0 bx) := by
  rw [evFn_eq2 (cx := cx0) (c := c_seal_Kind) rfl Try.func34 c_seal_Kind_eq (of_decide_eq_true (by kernel_rfl)) d_seal_Kind (of_decide_eq_true (by kernel_rfl))]
  exact congrArg (fin Try.prog [.tmp 2]) (F_seal_Kind_eq (evFn cx0 ext0 n) n bx.length a0 bx)

/-- scupper/scupperref15.Lay -/
def kp_r15_Lay : Option (List Nat) := some [0, 1, 2, 3, 4, 6, 7, 8, 9, 10, 11, 12, 15, 45, 49, 55, 77]
noncomputable def c_r15_Lay : Code := Try.f35.body.getD .skip
noncomputable def L_r15_Lay_0 (_E : FnA) (_n _n0 : Nat) (s : S) : Option (Ex × S) :=
  (pv s.bx (fieldAddrA Try.prog 34 (get s.env 4) 3)).bind fun r55 =>
  (pv r55.2 (loadA Try.prog 31 r55.2 r55.1)).bind fun r56 =>
  (pv r56.2 (lenA Try.prog 31 r56.1)).bind fun r57 =>
  (pv r57.2 (binA Try.prog .lss 3 (get s.env 10) r57.1)).bind fun r58 =>
  condA r58.1 ((pv r58.2 (fieldAddrA Try.prog 34 (get (prune kp_r15_Lay s.env) 4) 2)).bind fun r59 =>
  (pv r59.2 (loadA Try.prog 3 r59.2 r59.1)).bind fun r60 =>
  (pv r60.2 (binA Try.prog .add 3 r60.1 (get (prune kp_r15_Lay s.env) 10))).bind fun r61 =>
  (pv r61.2 (fieldAddrA Try.prog 34 (get (prune kp_r15_Lay s.env) 4) 3)).bind fun r62 =>
  (pv r62.2 (loadA Try.prog 31 r62.2 r62.1)).bind fun r63 =>
  (pv r63.2 (indexAddrA Try.prog 31 r63.1 (get (prune kp_r15_Lay s.env) 10))).bind fun r64 =>
  (pv r64.2 (loadA Try.prog 5 r64.2 r64.1)).bind fun r65 =>
  (pv r65.2 (indexAddrA Try.prog 23 (get (prune kp_r15_Lay s.env) 9) r61.1)).bind fun r66 =>
  (stA Try.prog 5 r66.2 r66.1 r65.1).bind fun r67 =>
  (pv r67.2 (binA Try.prog .add 3 (get (prune kp_r15_Lay (prune kp_r15_Lay s.env)) 10) (.v (Go.Value.int Go.IntKind.i64 1)))).bind fun r68 =>
  some (.normal, ⟨((10, r68.1) :: (55, r58.1) :: (prune kp_r15_Lay (prune kp_r15_Lay (prune kp_r15_Lay s.env)))), r68.2⟩)) (some (.exit 0, ⟨((55, r58.1) :: (prune kp_r15_Lay s.env)), r58.2⟩))
noncomputable def B_r15_Lay_0 (_E : FnA) (_n _n0 : Nat) (x10 x9 x49 x45 x8 x15 x8_1 x7 x6 x4 x3 x0 x1 x2 : AV) (y : Bx) : Option (Ex × S) :=
  (pv y (fieldAddrA Try.prog 34 x4 3)).bind fun r41 =>
  (pv r41.2 (loadA Try.prog 31 r41.2 r41.1)).bind fun r42 =>
  (pv r42.2 (lenA Try.prog 31 r42.1)).bind fun r43 =>
  (pv r43.2 (binA Try.prog .lss 3 x10 r43.1)).bind fun r44 =>
  condA r44.1 ((pv r44.2 (fieldAddrA Try.prog 34 x4 2)).bind fun r45 =>
  (pv r45.2 (loadA Try.prog 3 r45.2 r45.1)).bind fun r46 =>
  (pv r46.2 (binA Try.prog .add 3 r46.1 x10)).bind fun r47 =>
  (pv r47.2 (fieldAddrA Try.prog 34 x4 3)).bind fun r48 =>
  (pv r48.2 (loadA Try.prog 31 r48.2 r48.1)).bind fun r49 =>
  (pv r49.2 (indexAddrA Try.prog 31 r49.1 x10)).bind fun r50 =>
  (pv r50.2 (loadA Try.prog 5 r50.2 r50.1)).bind fun r51 =>
  (pv r51.2 (indexAddrA Try.prog 23 x9 r47.1)).bind fun r52 =>
  (stA Try.prog 5 r52.2 r52.1 r51.1).bind fun r53 =>
  (pv r53.2 (binA Try.prog .add 3 x10 (.v (Go.Value.int Go.IntKind.i64 1)))).bind fun r54 =>
  some (.normal, ⟨[(10, r54.1), (55, r44.1), (10, x10), (9, x9), (49, x49), (45, x45), (8, x8), (15, x15), (8, x8_1), (7, x7), (6, x6), (4, x4), (3, x3), (0, x0), (1, x1), (2, x2)], r54.2⟩)) (some (.exit 0, ⟨[(55, r44.1), (10, x10), (9, x9), (49, x49), (45, x45), (8, x8), (15, x15), (8, x8_1), (7, x7), (6, x6), (4, x4), (3, x3), (0, x0), (1, x1), (2, x2)], r44.2⟩))
theorem L_r15_Lay_0_lit {E : FnA} {n n0 : Nat} {x10 x9 x49 x45 x8 x15 x8_1 x7 x6 x4 x3 x0 x1 x2 : AV} {y : Bx} {Q : Ex → S → Prop} (h : Ends (B_r15_Lay_0 E n n0 x10 x9 x49 x45 x8 x15 x8_1 x7 x6 x4 x3 x0 x1 x2 y) Q) : Ends (L_r15_Lay_0 E n n0 ⟨[(10, x10), (9, x9), (49, x49), (45, x45), (8, x8), (15, x15), (8, x8_1), (7, x7), (6, x6), (4, x4), (3, x3), (0, x0), (1, x1), (2, x2)], y⟩) Q := by
  rw [show L_r15_Lay_0 E n n0 ⟨[(10, x10), (9, x9), (49, x49), (45, x45), (8, x8), (15, x15), (8, x8_1), (7, x7), (6, x6), (4, x4), (3, x3), (0, x0), (1, x1), (2, x2)], y⟩ = B_r15_Lay_0 E n n0 x10 x9 x49 x45 x8 x15 x8_1 x7 x6 x4 x3 x0 x1 x2 y by kernel_rfl]
  exact h
noncomputable def K_r15_Lay_0 (_E : FnA) (_n _n0 : Nat) (t : S) : Option (Ex × S) :=
  (pv t.bx (loadA Try.prog 23 t.bx (get t.env 9))).bind fun r71 =>
  (stA Try.prog 23 r71.2 (get t.env 6) r71.1).bind fun r72 =>
  some (.ret, ⟨((7, (.v (Go.Value.int Go.IntKind.i64 0))) :: (prune kp_r15_Lay t.env)), r72.2⟩)
noncomputable def X_r15_Lay_0 (_E : FnA) (_n _n0 : Nat) (i : Nat) (t : S) : Option (Ex × S) :=
  if i = 0 then (pv t.bx (loadA Try.prog 23 t.bx (get t.env 9))).bind fun r69 =>
  (stA Try.prog 23 r69.2 (get t.env 6) r69.1).bind fun r70 =>
  some (.ret, ⟨((7, (.v (Go.Value.int Go.IntKind.i64 0))) :: (prune kp_r15_Lay t.env)), r70.2⟩) else some (.exit i, ⟨t.env, t.bx⟩)
noncomputable def X_r15_Lay_0_0 (_E : FnA) (_n _n0 : Nat) (x55 x10 x9 x49 x45 x8 x15 x8_1 x7 x6 x4 x3 x0 x1 x2 : AV) (y : Bx) : Option (Ex × S) :=
  (pv y (loadA Try.prog 23 y x9)).bind fun r73 =>
  (stA Try.prog 23 r73.2 x6 r73.1).bind fun r74 =>
  some (.ret, ⟨[(7, (.v (Go.Value.int Go.IntKind.i64 0))), (55, x55), (10, x10), (9, x9), (49, x49), (45, x45), (8, x8), (15, x15), (8, x8_1), (7, x7), (6, x6), (4, x4), (3, x3), (0, x0), (1, x1), (2, x2)], r74.2⟩)
theorem X_r15_Lay_0_0_lit {E : FnA} {n n0 : Nat} {x55 x10 x9 x49 x45 x8 x15 x8_1 x7 x6 x4 x3 x0 x1 x2 : AV} {y : Bx} {Q : Ex → S → Prop} (h : Ends (X_r15_Lay_0_0 E n n0 x55 x10 x9 x49 x45 x8 x15 x8_1 x7 x6 x4 x3 x0 x1 x2 y) Q) : Ends (X_r15_Lay_0 E n n0 0 ⟨[(55, x55), (10, x10), (9, x9), (49, x49), (45, x45), (8, x8), (15, x15), (8, x8_1), (7, x7), (6, x6), (4, x4), (3, x3), (0, x0), (1, x1), (2, x2)], y⟩) Q := by
  rw [show X_r15_Lay_0 E n n0 0 ⟨[(55, x55), (10, x10), (9, x9), (49, x49), (45, x45), (8, x8), (15, x15), (8, x8_1), (7, x7), (6, x6), (4, x4), (3, x3), (0, x0), (1, x1), (2, x2)], y⟩ = X_r15_Lay_0_0 E n n0 x55 x10 x9 x49 x45 x8 x15 x8_1 x7 x6 x4 x3 x0 x1 x2 y by kernel_rfl]
  exact h
noncomputable def L_r15_Lay_1 (_E : FnA) (_n _n0 : Nat) (s : S) : Option (Ex × S) :=
  (pv s.bx (fieldAddrA Try.prog 34 (get s.env 4) 3)).bind fun r95 =>
  (pv r95.2 (loadA Try.prog 31 r95.2 r95.1)).bind fun r96 =>
  (pv r96.2 (lenA Try.prog 31 r96.1)).bind fun r97 =>
  (pv r97.2 (binA Try.prog .lss 3 (get s.env 12) r97.1)).bind fun r98 =>
  condA r98.1 ((pv r98.2 (fieldAddrA Try.prog 34 (get (prune kp_r15_Lay s.env) 4) 2)).bind fun r99 =>
  (pv r99.2 (loadA Try.prog 3 r99.2 r99.1)).bind fun r100 =>
  (pv r100.2 (binA Try.prog .add 3 r100.1 (get (prune kp_r15_Lay s.env) 12))).bind fun r101 =>
  (pv r101.2 (fieldAddrA Try.prog 34 (get (prune kp_r15_Lay s.env) 4) 3)).bind fun r102 =>
  (pv r102.2 (loadA Try.prog 31 r102.2 r102.1)).bind fun r103 =>
  (pv r103.2 (indexAddrA Try.prog 31 r103.1 (get (prune kp_r15_Lay s.env) 12))).bind fun r104 =>
  (pv r104.2 (loadA Try.prog 5 r104.2 r104.1)).bind fun r105 =>
  (pv r105.2 (indexAddrA Try.prog 38 (get (prune kp_r15_Lay s.env) 11) r101.1)).bind fun r106 =>
  (stA Try.prog 5 r106.2 r106.1 r105.1).bind fun r107 =>
  (pv r107.2 (binA Try.prog .add 3 (get (prune kp_r15_Lay (prune kp_r15_Lay s.env)) 12) (.v (Go.Value.int Go.IntKind.i64 1)))).bind fun r108 =>
  some (.normal, ⟨((12, r108.1) :: (77, r98.1) :: (prune kp_r15_Lay (prune kp_r15_Lay (prune kp_r15_Lay s.env)))), r108.2⟩)) (some (.exit 2, ⟨((77, r98.1) :: (prune kp_r15_Lay s.env)), r98.2⟩))
noncomputable def B_r15_Lay_1 (_E : FnA) (_n _n0 : Nat) (x12 x11 x49 x45 x8 x15 x8_1 x7 x6 x4 x3 x0 x1 x2 : AV) (y : Bx) : Option (Ex × S) :=
  (pv y (fieldAddrA Try.prog 34 x4 3)).bind fun r81 =>
  (pv r81.2 (loadA Try.prog 31 r81.2 r81.1)).bind fun r82 =>
  (pv r82.2 (lenA Try.prog 31 r82.1)).bind fun r83 =>
  (pv r83.2 (binA Try.prog .lss 3 x12 r83.1)).bind fun r84 =>
  condA r84.1 ((pv r84.2 (fieldAddrA Try.prog 34 x4 2)).bind fun r85 =>
  (pv r85.2 (loadA Try.prog 3 r85.2 r85.1)).bind fun r86 =>
  (pv r86.2 (binA Try.prog .add 3 r86.1 x12)).bind fun r87 =>
  (pv r87.2 (fieldAddrA Try.prog 34 x4 3)).bind fun r88 =>
  (pv r88.2 (loadA Try.prog 31 r88.2 r88.1)).bind fun r89 =>
  (pv r89.2 (indexAddrA Try.prog 31 r89.1 x12)).bind fun r90 =>
  (pv r90.2 (loadA Try.prog 5 r90.2 r90.1)).bind fun r91 =>
  (pv r91.2 (indexAddrA Try.prog 38 x11 r87.1)).bind fun r92 =>
  (stA Try.prog 5 r92.2 r92.1 r91.1).bind fun r93 =>
  (pv r93.2 (binA Try.prog .add 3 x12 (.v (Go.Value.int Go.IntKind.i64 1)))).bind fun r94 =>
  some (.normal, ⟨[(12, r94.1), (77, r84.1), (12, x12), (11, x11), (49, x49), (45, x45), (8, x8), (15, x15), (8, x8_1), (7, x7), (6, x6), (4, x4), (3, x3), (0, x0), (1, x1), (2, x2)], r94.2⟩)) (some (.exit 2, ⟨[(77, r84.1), (12, x12), (11, x11), (49, x49), (45, x45), (8, x8), (15, x15), (8, x8_1), (7, x7), (6, x6), (4, x4), (3, x3), (0, x0), (1, x1), (2, x2)], r84.2⟩))
theorem L_r15_Lay_1_lit {E : FnA} {n n0 : Nat} {x12 x11 x49 x45 x8 x15 x8_1 x7 x6 x4 x3 x0 x1 x2 : AV} {y : Bx} {Q : Ex → S → Prop} (h : Ends (B_r15_Lay_1 E n n0 x12 x11 x49 x45 x8 x15 x8_1 x7 x6 x4 x3 x0 x1 x2 y) Q) : Ends (L_r15_Lay_1 E n n0 ⟨[(12, x12), (11, x11), (49, x49), (45, x45), (8, x8), (15, x15), (8, x8_1), (7, x7), (6, x6), (4, x4), (3, x3), (0, x0), (1, x1), (2, x2)], y⟩) Q := by
  rw [show L_r15_Lay_1 E n n0 ⟨[(12, x12), (11, x11), (49, x49), (45, x45), (8, x8), (15, x15), (8, x8_1), (7, x7), (6, x6), (4, x4), (3, x3), (0, x0), (1, x1), (2, x2)], y⟩ = B_r15_Lay_1 E n n0 x12 x11 x49 x45 x8 x15 x8_1 x7 x6 x4 x3 x0 x1 x2 y by kernel_rfl]
  exact h
noncomputable def K_r15_Lay_1 (E : FnA) (_n _n0 : Nat) (t : S) : Option (Ex × S) :=
  (pv t.bx (fieldAddrA Try.prog 34 (get t.env 4) 4)).bind fun r116 =>
  (pv r116.2 (loadA Try.prog 3 r116.2 r116.1)).bind fun r117 =>
  (pv r117.2 (loadA Try.prog 38 r117.2 (get t.env 11))).bind fun r118 =>
  (callA E md0 r118.2 48 [r117.1, (get t.env 2), r118.1]).bind fun r119 =>
  (pv r119.2 (tupA r119.1 0)).bind fun r120 =>
  (pv r120.2 (tupA r119.1 1)).bind fun r121 =>
  (stA Try.prog 23 r121.2 (get t.env 6) r120.1).bind fun r122 =>
  some (.ret, ⟨((7, r121.1) :: (prune kp_r15_Lay t.env)), r122.2⟩)
noncomputable def X_r15_Lay_1 (E : FnA) (_n _n0 : Nat) (i : Nat) (t : S) : Option (Ex × S) :=
  if i = 2 then (pv t.bx (fieldAddrA Try.prog 34 (get t.env 4) 4)).bind fun r109 =>
  (pv r109.2 (loadA Try.prog 3 r109.2 r109.1)).bind fun r110 =>
  (pv r110.2 (loadA Try.prog 38 r110.2 (get t.env 11))).bind fun r111 =>
  (callA E md0 r111.2 48 [r110.1, (get t.env 2), r111.1]).bind fun r112 =>
  (pv r112.2 (tupA r112.1 0)).bind fun r113 =>
  (pv r113.2 (tupA r112.1 1)).bind fun r114 =>
  (stA Try.prog 23 r114.2 (get t.env 6) r113.1).bind fun r115 =>
  some (.ret, ⟨((7, r114.1) :: (prune kp_r15_Lay t.env)), r115.2⟩) else some (.exit i, ⟨t.env, t.bx⟩)
noncomputable def X_r15_Lay_1_0 (E : FnA) (_n _n0 : Nat) (x77 x12 x11 x49 x45 x8 x15 x8_1 x7 x6 x4 x3 x0 x1 x2 : AV) (y : Bx) : Option (Ex × S) :=
  (pv y (fieldAddrA Try.prog 34 x4 4)).bind fun r123 =>
  (pv r123.2 (loadA Try.prog 3 r123.2 r123.1)).bind fun r124 =>
  (pv r124.2 (loadA Try.prog 38 r124.2 x11)).bind fun r125 =>
  (callA E md0 r125.2 48 [r124.1, x2, r125.1]).bind fun r126 =>
  (pv r126.2 (tupA r126.1 0)).bind fun r127 =>
  (pv r127.2 (tupA r126.1 1)).bind fun r128 =>
  (stA Try.prog 23 r128.2 x6 r127.1).bind fun r129 =>
  some (.ret, ⟨[(7, r128.1), (77, x77), (12, x12), (11, x11), (49, x49), (45, x45), (8, x8), (15, x15), (8, x8_1), (7, x7), (6, x6), (4, x4), (3, x3), (0, x0), (1, x1), (2, x2)], r129.2⟩)
theorem X_r15_Lay_1_0_lit {E : FnA} {n n0 : Nat} {x77 x12 x11 x49 x45 x8 x15 x8_1 x7 x6 x4 x3 x0 x1 x2 : AV} {y : Bx} {Q : Ex → S → Prop} (h : Ends (X_r15_Lay_1_0 E n n0 x77 x12 x11 x49 x45 x8 x15 x8_1 x7 x6 x4 x3 x0 x1 x2 y) Q) : Ends (X_r15_Lay_1 E n n0 2 ⟨[(77, x77), (12, x12), (11, x11), (49, x49), (45, x45), (8, x8), (15, x15), (8, x8_1), (7, x7), (6, x6), (4, x4), (3, x3), (0, x0), (1, x1), (2, x2)], y⟩) Q := by
  rw [show X_r15_Lay_1 E n n0 2 ⟨[(77, x77), (12, x12), (11, x11), (49, x49), (45, x45), (8, x8), (15, x15), (8, x8_1), (7, x7), (6, x6), (4, x4), (3, x3), (0, x0), (1, x1), (2, x2)], y⟩ = X_r15_Lay_1_0 E n n0 x77 x12 x11 x49 x45 x8 x15 x8_1 x7 x6 x4 x3 x0 x1 x2 y by kernel_rfl]
  exact h
noncomputable def B_r15_Lay_0w1 (_E : FnA) (_n _n0 : Nat) (x10 x9 x49 x45 x15 x8 x7 x6 x4 x3 x0 x1 x2 : AV) (y : Bx) : Option (Ex × S) :=
  (pv y (fieldAddrA Try.prog 34 x4 3)).bind fun r164 =>
  (pv r164.2 (loadA Try.prog 31 r164.2 r164.1)).bind fun r165 =>
  (pv r165.2 (lenA Try.prog 31 r165.1)).bind fun r166 =>
  (pv r166.2 (binA Try.prog .lss 3 x10 r166.1)).bind fun r167 =>
  condA r167.1 ((pv r167.2 (fieldAddrA Try.prog 34 x4 2)).bind fun r168 =>
  (pv r168.2 (loadA Try.prog 3 r168.2 r168.1)).bind fun r169 =>
  (pv r169.2 (binA Try.prog .add 3 r169.1 x10)).bind fun r170 =>
  (pv r170.2 (fieldAddrA Try.prog 34 x4 3)).bind fun r171 =>
  (pv r171.2 (loadA Try.prog 31 r171.2 r171.1)).bind fun r172 =>
  (pv r172.2 (indexAddrA Try.prog 31 r172.1 x10)).bind fun r173 =>
  (pv r173.2 (loadA Try.prog 5 r173.2 r173.1)).bind fun r174 =>
  (pv r174.2 (indexAddrA Try.prog 23 x9 r170.1)).bind fun r175 =>
  (stA Try.prog 5 r175.2 r175.1 r174.1).bind fun r176 =>
  (pv r176.2 (binA Try.prog .add 3 x10 (.v (Go.Value.int Go.IntKind.i64 1)))).bind fun r177 =>
  some (.normal, ⟨[(10, r177.1), (55, r167.1), (10, x10), (9, x9), (49, x49), (45, x45), (15, x15), (8, x8), (7, x7), (6, x6), (4, x4), (3, x3), (0, x0), (1, x1), (2, x2)], r177.2⟩)) (some (.exit 0, ⟨[(55, r167.1), (10, x10), (9, x9), (49, x49), (45, x45), (15, x15), (8, x8), (7, x7), (6, x6), (4, x4), (3, x3), (0, x0), (1, x1), (2, x2)], r167.2⟩))
theorem L_r15_Lay_0w1_lit {E : FnA} {n n0 : Nat} {x10 x9 x49 x45 x15 x8 x7 x6 x4 x3 x0 x1 x2 : AV} {y : Bx} {Q : Ex → S → Prop} (h : Ends (B_r15_Lay_0w1 E n n0 x10 x9 x49 x45 x15 x8 x7 x6 x4 x3 x0 x1 x2 y) Q) : Ends (L_r15_Lay_0 E n n0 ⟨[(10, x10), (9, x9), (49, x49), (45, x45), (15, x15), (8, x8), (7, x7), (6, x6), (4, x4), (3, x3), (0, x0), (1, x1), (2, x2)], y⟩) Q := by
  rw [show L_r15_Lay_0 E n n0 ⟨[(10, x10), (9, x9), (49, x49), (45, x45), (15, x15), (8, x8), (7, x7), (6, x6), (4, x4), (3, x3), (0, x0), (1, x1), (2, x2)], y⟩ = B_r15_Lay_0w1 E n n0 x10 x9 x49 x45 x15 x8 x7 x6 x4 x3 x0 x1 x2 y by kernel_rfl]
  exact h
noncomputable def X_r15_Lay_0_0w1 (_E : FnA) (_n _n0 : Nat) (x55 x10 x9 x49 x45 x15 x8 x7 x6 x4 x3 x0 x1 x2 : AV) (y : Bx) : Option (Ex × S) :=
  (pv y (loadA Try.prog 23 y x9)).bind fun r178 =>
  (stA Try.prog 23 r178.2 x6 r178.1).bind fun r179 =>
  some (.ret, ⟨[(7, (.v (Go.Value.int Go.IntKind.i64 0))), (55, x55), (10, x10), (9, x9), (49, x49), (45, x45), (15, x15), (8, x8), (7, x7), (6, x6), (4, x4), (3, x3), (0, x0), (1, x1), (2, x2)], r179.2⟩)
theorem X_r15_Lay_0_0w1_lit {E : FnA} {n n0 : Nat} {x55 x10 x9 x49 x45 x15 x8 x7 x6 x4 x3 x0 x1 x2 : AV} {y : Bx} {Q : Ex → S → Prop} (h : Ends (X_r15_Lay_0_0w1 E n n0 x55 x10 x9 x49 x45 x15 x8 x7 x6 x4 x3 x0 x1 x2 y) Q) : Ends (X_r15_Lay_0 E n n0 0 ⟨[(55, x55), (10, x10), (9, x9), (49, x49), (45, x45), (15, x15), (8, x8), (7, x7), (6, x6), (4, x4), (3, x3), (0, x0), (1, x1), (2, x2)], y⟩) Q := by
  rw [show X_r15_Lay_0 E n n0 0 ⟨[(55, x55), (10, x10), (9, x9), (49, x49), (45, x45), (15, x15), (8, x8), (7, x7), (6, x6), (4, x4), (3, x3), (0, x0), (1, x1), (2, x2)], y⟩ = X_r15_Lay_0_0w1 E n n0 x55 x10 x9 x49 x45 x15 x8 x7 x6 x4 x3 x0 x1 x2 y by kernel_rfl]
  exact h
noncomputable def B_r15_Lay_1w1 (_E : FnA) (_n _n0 : Nat) (x12 x11 x49 x45 x15 x8 x7 x6 x4 x3 x0 x1 x2 : AV) (y : Bx) : Option (Ex × S) :=
  (pv y (fieldAddrA Try.prog 34 x4 3)).bind fun r186 =>
  (pv r186.2 (loadA Try.prog 31 r186.2 r186.1)).bind fun r187 =>
  (pv r187.2 (lenA Try.prog 31 r187.1)).bind fun r188 =>
  (pv r188.2 (binA Try.prog .lss 3 x12 r188.1)).bind fun r189 =>
  condA r189.1 ((pv r189.2 (fieldAddrA Try.prog 34 x4 2)).bind fun r190 =>
  (pv r190.2 (loadA Try.prog 3 r190.2 r190.1)).bind fun r191 =>
  (pv r191.2 (binA Try.prog .add 3 r191.1 x12)).bind fun r192 =>
  (pv r192.2 (fieldAddrA Try.prog 34 x4 3)).bind fun r193 =>
  (pv r193.2 (loadA Try.prog 31 r193.2 r193.1)).bind fun r194 =>
  (pv r194.2 (indexAddrA Try.prog 31 r194.1 x12)).bind fun r195 =>
  (pv r195.2 (loadA Try.prog 5 r195.2 r195.1)).bind fun r196 =>
  (pv r196.2 (indexAddrA Try.prog 38 x11 r192.1)).bind fun r197 =>
  (stA Try.prog 5 r197.2 r197.1 r196.1).bind fun r198 =>
  (pv r198.2 (binA Try.prog .add 3 x12 (.v (Go.Value.int Go.IntKind.i64 1)))).bind fun r199 =>
  some (.normal, ⟨[(12, r199.1), (77, r189.1), (12, x12), (11, x11), (49, x49), (45, x45), (15, x15), (8, x8), (7, x7), (6, x6), (4, x4), (3, x3), (0, x0), (1, x1), (2, x2)], r199.2⟩)) (some (.exit 2, ⟨[(77, r189.1), (12, x12), (11, x11), (49, x49), (45, x45), (15, x15), (8, x8), (7, x7), (6, x6), (4, x4), (3, x3), (0, x0), (1, x1), (2, x2)], r189.2⟩))
theorem L_r15_Lay_1w1_lit {E : FnA} {n n0 : Nat} {x12 x11 x49 x45 x15 x8 x7 x6 x4 x3 x0 x1 x2 : AV} {y : Bx} {Q : Ex → S → Prop} (h : Ends (B_r15_Lay_1w1 E n n0 x12 x11 x49 x45 x15 x8 x7 x6 x4 x3 x0 x1 x2 y) Q) : Ends (L_r15_Lay_1 E n n0 ⟨[(12, x12), (11, x11), (49, x49), (45, x45), (15, x15), (8, x8), (7, x7), (6, x6), (4, x4), (3, x3), (0, x0), (1, x1), (2, x2)], y⟩) Q := by
  rw [show L_r15_Lay_1 E n n0 ⟨[(12, x12), (11, x11), (49, x49), (45, x45), (15, x15), (8, x8), (7, x7), (6, x6), (4, x4), (3, x3), (0, x0), (1, x1), (2, x2)], y⟩ = B_r15_Lay_1w1 E n n0 x12 x11 x49 x45 x15 x8 x7 x6 x4 x3 x0 x1 x2 y by kernel_rfl]
  exact h
noncomputable def X_r15_Lay_1_0w1 (E : FnA) (_n _n0 : Nat) (x77 x12 x11 x49 x45 x15 x8 x7 x6 x4 x3 x0 x1 x2 : AV) (y : Bx) : Option (Ex × S) :=
  (pv y (fieldAddrA Try.prog 34 x4 4)).bind fun r200 =>
  (pv r200.2 (loadA Try.prog 3 r200.2 r200.1)).bind fun r201 =>
  (pv r201.2 (loadA Try.prog 38 r201.2 x11)).bind fun r202 =>
  (callA E md0 r202.2 48 [r201.1, x2, r202.1]).bind fun r203 =>
  (pv r203.2 (tupA r203.1 0)).bind fun r204 =>
  (pv r204.2 (tupA r203.1 1)).bind fun r205 =>
  (stA Try.prog 23 r205.2 x6 r204.1).bind fun r206 =>
  some (.ret, ⟨[(7, r205.1), (77, x77), (12, x12), (11, x11), (49, x49), (45, x45), (15, x15), (8, x8), (7, x7), (6, x6), (4, x4), (3, x3), (0, x0), (1, x1), (2, x2)], r206.2⟩)
theorem X_r15_Lay_1_0w1_lit {E : FnA} {n n0 : Nat} {x77 x12 x11 x49 x45 x15 x8 x7 x6 x4 x3 x0 x1 x2 : AV} {y : Bx} {Q : Ex → S → Prop} (h : Ends (X_r15_Lay_1_0w1 E n n0 x77 x12 x11 x49 x45 x15 x8 x7 x6 x4 x3 x0 x1 x2 y) Q) : Ends (X_r15_Lay_1 E n n0 2 ⟨[(77, x77), (12, x12), (11, x11), (49, x49), (45, x45), (15, x15), (8, x8), (7, x7), (6, x6), (4, x4), (3, x3), (0, x0), (1, x1), (2, x2)], y⟩) Q := by
  rw [show X_r15_Lay_1 E n n0 2 ⟨[(77, x77), (12, x12), (11, x11), (49, x49), (45, x45), (15, x15), (8, x8), (7, x7), (6, x6), (4, x4), (3, x3), (0, x0), (1, x1), (2, x2)], y⟩ = X_r15_Lay_1_0w1 E n n0 x77 x12 x11 x49 x45 x15 x8 x7 x6 x4 x3 x0 x1 x2 y by kernel_rfl]
  exact h
noncomputable def F_r15_Lay (E : FnA) (n n0 : Nat) (a0 a1 a2 : AV) (bx : Bx) : Option (Ex × S) :=
  (boxA bx a0).bind fun r1 =>
  (boxA r1.2 a1).bind fun r2 =>
  (allocA Try.prog r2.2 23).bind fun r3 =>
  (pv r3.2 (fieldAddrA Try.prog 34 r2.1 4)).bind fun r4 =>
  (pv r4.2 (loadA Try.prog 3 r4.2 r4.1)).bind fun r5 =>
  (pv r5.2 (binA Try.prog .neq 3 r5.1 (.v (Go.Value.int Go.IntKind.i64 0)))).bind fun r6 =>
  condA r6.1 ((pv r6.2 (fieldAddrA Try.prog 34 r2.1 4)).bind fun r7 =>
  (pv r7.2 (loadA Try.prog 3 r7.2 r7.1)).bind fun r8 =>
  (pv r8.2 (binA Try.prog .lss 3 r8.1 (.v (Go.Value.int Go.IntKind.i64 0)))).bind fun r9 =>
  (gsel false r9.2 (pv r9.2 (fieldAddrA Try.prog 34 r2.1 4)) r9.1).bind fun r10 =>
  (gsel false r10.2 (pv r10.2 (loadA Try.prog 3 r10.2 r10.1)) r9.1).bind fun r11 =>
  (gsel false r11.2 (pv r11.2 (binA Try.prog .gtr 3 r11.1 (.v (Go.Value.int Go.IntKind.i64 6)))) r9.1).bind fun r12 =>
  (pv r12.2 (pickA r9.1 (.v (Go.Value.bool true)) r12.1)).bind fun r13 =>
  (gsel false r13.2 (pv r13.2 (fieldAddrA Try.prog 34 r2.1 3)) r13.1).bind fun r14 =>
  (gsel false r14.2 (pv r14.2 (loadA Try.prog 31 r14.2 r14.1)) r13.1).bind fun r15 =>
  (gsel false r15.2 (pv r15.2 (lenA Try.prog 31 r15.1)) r13.1).bind fun r16 =>
  (gsel false r16.2 (some ((.v (Go.Value.int Go.IntKind.i64 54)), r16.2)) r13.1).bind fun r17 =>
  (gsel false r17.2 (pv r17.2 (binA Try.prog .gtr 3 r16.1 r17.1)) r13.1).bind fun r18 =>
  (pv r18.2 (pickA r13.1 (.v (Go.Value.bool true)) r18.1)).bind fun r19 =>
  (gsel false r19.2 (pv r19.2 (fieldAddrA Try.prog 34 r2.1 2)) r19.1).bind fun r20 =>
  (gsel false r20.2 (pv r20.2 (loadA Try.prog 3 r20.2 r20.1)) r19.1).bind fun r21 =>
  (gsel false r21.2 (pv r21.2 (binA Try.prog .lss 3 r21.1 (.v (Go.Value.int Go.IntKind.i64 0)))) r19.1).bind fun r22 =>
  (pv r22.2 (pickA r19.1 (.v (Go.Value.bool true)) r22.1)).bind fun r23 =>
  (gsel false r23.2 (pv r23.2 (fieldAddrA Try.prog 34 r2.1 2)) r23.1).bind fun r24 =>
  (gsel false r24.2 (pv r24.2 (loadA Try.prog 3 r24.2 r24.1)) r23.1).bind fun r25 =>
  (gsel false r25.2 (some ((.v (Go.Value.int Go.IntKind.i64 54)), r25.2)) r23.1).bind fun r26 =>
  (gsel false r26.2 (pv r26.2 (fieldAddrA Try.prog 34 r2.1 3)) r23.1).bind fun r27 =>
  (gsel false r27.2 (pv r27.2 (loadA Try.prog 31 r27.2 r27.1)) r23.1).bind fun r28 =>
  (gsel false r28.2 (pv r28.2 (lenA Try.prog 31 r28.1)) r23.1).bind fun r29 =>
  (gsel false r29.2 (pv r29.2 (binA Try.prog .sub 3 r26.1 r29.1)) r23.1).bind fun r30 =>
  (gsel false r30.2 (pv r30.2 (binA Try.prog .gtr 3 r25.1 r30.1)) r23.1).bind fun r31 =>
  (pv r31.2 (pickA r23.1 (.v (Go.Value.bool true)) r31.1)).bind fun r32 =>
  condA r32.1 ((pv r32.2 (loadA Try.prog 23 r32.2 r1.1)).bind fun r33 =>
  (stA Try.prog 23 r33.2 r3.1 r33.1).bind fun r34 =>
  some (.ret, ⟨[(7, (.v (Go.Value.int Go.IntKind.i64 2))), (45, r32.1), (8, (.v (Go.Value.int Go.IntKind.i64 54))), (15, r6.1), (8, (.v (Go.Value.int Go.IntKind.i64 64))), (7, (.v (Go.Value.int Go.IntKind.i64 0))), (6, r3.1), (4, r2.1), (3, r1.1), (0, a0), (1, a1), (2, a2)], r34.2⟩)) ((pv r32.2 (fieldAddrA Try.prog 34 r2.1 4)).bind fun r35 =>
  (pv r35.2 (loadA Try.prog 3 r35.2 r35.1)).bind fun r36 =>
  (pv r36.2 (binA Try.prog .eql 3 r36.1 (.v (Go.Value.int Go.IntKind.i64 0)))).bind fun r37 =>
  condA r37.1 ((pv r37.2 (loadA Try.prog 23 r37.2 r1.1)).bind fun r38 =>
  (allocA Try.prog r38.2 23).bind fun r39 =>
  (stA Try.prog 23 r39.2 r39.1 r38.1).bind fun r40 =>
  exitA (iter (head ⟨[(10, (.v (Go.Value.int Go.IntKind.i64 0))), (9, r39.1), (49, r37.1), (45, r32.1), (8, (.v (Go.Value.int Go.IntKind.i64 54))), (15, r6.1), (8, (.v (Go.Value.int Go.IntKind.i64 64))), (7, (.v (Go.Value.int Go.IntKind.i64 0))), (6, r3.1), (4, r2.1), (3, r1.1), (0, a0), (1, a1), (2, a2)], r40.2⟩) (L_r15_Lay_0 E n n0) n ⟨[(10, (.v (Go.Value.int Go.IntKind.i64 0))), (9, r39.1), (49, r37.1), (45, r32.1), (8, (.v (Go.Value.int Go.IntKind.i64 54))), (15, r6.1), (8, (.v (Go.Value.int Go.IntKind.i64 64))), (7, (.v (Go.Value.int Go.IntKind.i64 0))), (6, r3.1), (4, r2.1), (3, r1.1), (0, a0), (1, a1), (2, a2)], r40.2⟩) (K_r15_Lay_0 E n n0) (X_r15_Lay_0 E n n0)) ((pv r37.2 (loadA Try.prog 23 r37.2 r1.1)).bind fun r75 =>
  (pv r75.2 (fieldAddrA Try.prog 34 r2.1 4)).bind fun r76 =>
  (pv r76.2 (loadA Try.prog 3 r76.2 r76.1)).bind fun r77 =>
  (callA E md0 r77.2 16 [r75.1, r77.1]).bind fun r78 =>
  (allocA Try.prog r78.2 38).bind fun r79 =>
  (stA Try.prog 38 r79.2 r79.1 r78.1).bind fun r80 =>
  exitA (iter (head ⟨[(12, (.v (Go.Value.int Go.IntKind.i64 0))), (11, r79.1), (49, r37.1), (45, r32.1), (8, (.v (Go.Value.int Go.IntKind.i64 54))), (15, r6.1), (8, (.v (Go.Value.int Go.IntKind.i64 64))), (7, (.v (Go.Value.int Go.IntKind.i64 0))), (6, r3.1), (4, r2.1), (3, r1.1), (0, a0), (1, a1), (2, a2)], r80.2⟩) (L_r15_Lay_1 E n n0) n ⟨[(12, (.v (Go.Value.int Go.IntKind.i64 0))), (11, r79.1), (49, r37.1), (45, r32.1), (8, (.v (Go.Value.int Go.IntKind.i64 54))), (15, r6.1), (8, (.v (Go.Value.int Go.IntKind.i64 64))), (7, (.v (Go.Value.int Go.IntKind.i64 0))), (6, r3.1), (4, r2.1), (3, r1.1), (0, a0), (1, a1), (2, a2)], r80.2⟩) (K_r15_Lay_1 E n n0) (X_r15_Lay_1 E n n0)))) ((pv r6.2 (fieldAddrA Try.prog 34 r2.1 4)).bind fun r130 =>
  (pv r130.2 (loadA Try.prog 3 r130.2 r130.1)).bind fun r131 =>
  (pv r131.2 (binA Try.prog .lss 3 r131.1 (.v (Go.Value.int Go.IntKind.i64 0)))).bind fun r132 =>
  (gsel false r132.2 (pv r132.2 (fieldAddrA Try.prog 34 r2.1 4)) r132.1).bind fun r133 =>
  (gsel false r133.2 (pv r133.2 (loadA Try.prog 3 r133.2 r133.1)) r132.1).bind fun r134 =>
  (gsel false r134.2 (pv r134.2 (binA Try.prog .gtr 3 r134.1 (.v (Go.Value.int Go.IntKind.i64 6)))) r132.1).bind fun r135 =>
  (pv r135.2 (pickA r132.1 (.v (Go.Value.bool true)) r135.1)).bind fun r136 =>
  (gsel false r136.2 (pv r136.2 (fieldAddrA Try.prog 34 r2.1 3)) r136.1).bind fun r137 =>
  (gsel false r137.2 (pv r137.2 (loadA Try.prog 31 r137.2 r137.1)) r136.1).bind fun r138 =>
  (gsel false r138.2 (pv r138.2 (lenA Try.prog 31 r138.1)) r136.1).bind fun r139 =>
  (gsel false r139.2 (some ((.v (Go.Value.int Go.IntKind.i64 64)), r139.2)) r136.1).bind fun r140 =>
  (gsel false r140.2 (pv r140.2 (binA Try.prog .gtr 3 r139.1 r140.1)) r136.1).bind fun r141 =>
  (pv r141.2 (pickA r136.1 (.v (Go.Value.bool true)) r141.1)).bind fun r142 =>
  (gsel false r142.2 (pv r142.2 (fieldAddrA Try.prog 34 r2.1 2)) r142.1).bind fun r143 =>
  (gsel false r143.2 (pv r143.2 (loadA Try.prog 3 r143.2 r143.1)) r142.1).bind fun r144 =>
  (gsel false r144.2 (pv r144.2 (binA Try.prog .lss 3 r144.1 (.v (Go.Value.int Go.IntKind.i64 0)))) r142.1).bind fun r145 =>
  (pv r145.2 (pickA r142.1 (.v (Go.Value.bool true)) r145.1)).bind fun r146 =>
  (gsel false r146.2 (pv r146.2 (fieldAddrA Try.prog 34 r2.1 2)) r146.1).bind fun r147 =>
  (gsel false r147.2 (pv r147.2 (loadA Try.prog 3 r147.2 r147.1)) r146.1).bind fun r148 =>
  (gsel false r148.2 (some ((.v (Go.Value.int Go.IntKind.i64 64)), r148.2)) r146.1).bind fun r149 =>
  (gsel false r149.2 (pv r149.2 (fieldAddrA Try.prog 34 r2.1 3)) r146.1).bind fun r150 =>
  (gsel false r150.2 (pv r150.2 (loadA Try.prog 31 r150.2 r150.1)) r146.1).bind fun r151 =>
  (gsel false r151.2 (pv r151.2 (lenA Try.prog 31 r151.1)) r146.1).bind fun r152 =>
  (gsel false r152.2 (pv r152.2 (binA Try.prog .sub 3 r149.1 r152.1)) r146.1).bind fun r153 =>
  (gsel false r153.2 (pv r153.2 (binA Try.prog .gtr 3 r148.1 r153.1)) r146.1).bind fun r154 =>
  (pv r154.2 (pickA r146.1 (.v (Go.Value.bool true)) r154.1)).bind fun r155 =>
  condA r155.1 ((pv r155.2 (loadA Try.prog 23 r155.2 r1.1)).bind fun r156 =>
  (stA Try.prog 23 r156.2 r3.1 r156.1).bind fun r157 =>
  some (.ret, ⟨[(7, (.v (Go.Value.int Go.IntKind.i64 2))), (45, r155.1), (15, r6.1), (8, (.v (Go.Value.int Go.IntKind.i64 64))), (7, (.v (Go.Value.int Go.IntKind.i64 0))), (6, r3.1), (4, r2.1), (3, r1.1), (0, a0), (1, a1), (2, a2)], r157.2⟩)) ((pv r155.2 (fieldAddrA Try.prog 34 r2.1 4)).bind fun r158 =>
  (pv r158.2 (loadA Try.prog 3 r158.2 r158.1)).bind fun r159 =>
  (pv r159.2 (binA Try.prog .eql 3 r159.1 (.v (Go.Value.int Go.IntKind.i64 0)))).bind fun r160 =>
  condA r160.1 ((pv r160.2 (loadA Try.prog 23 r160.2 r1.1)).bind fun r161 =>
  (allocA Try.prog r161.2 23).bind fun r162 =>
  (stA Try.prog 23 r162.2 r162.1 r161.1).bind fun r163 =>
  exitA (iter (head ⟨[(10, (.v (Go.Value.int Go.IntKind.i64 0))), (9, r162.1), (49, r160.1), (45, r155.1), (15, r6.1), (8, (.v (Go.Value.int Go.IntKind.i64 64))), (7, (.v (Go.Value.int Go.IntKind.i64 0))), (6, r3.1), (4, r2.1), (3, r1.1), (0, a0), (1, a1), (2, a2)], r163.2⟩) (L_r15_Lay_0 E n n0) n ⟨[(10, (.v (Go.Value.int Go.IntKind.i64 0))), (9, r162.1), (49, r160.1), (45, r155.1), (15, r6.1), (8, (.v (Go.Value.int Go.IntKind.i64 64))), (7, (.v (Go.Value.int Go.IntKind.i64 0))), (6, r3.1), (4, r2.1), (3, r1.1), (0, a0), (1, a1), (2, a2)], r163.2⟩) (K_r15_Lay_0 E n n0) (X_r15_Lay_0 E n n0)) ((pv r160.2 (loadA Try.prog 23 r160.2 r1.1)).bind fun r180 =>
  (pv r180.2 (fieldAddrA Try.prog 34 r2.1 4)).bind fun r181 =>
  (pv r181.2 (loadA Try.prog 3 r181.2 r181.1)).bind fun r182 =>
  (callA E md0 r182.2 16 [r180.1, r182.1]).bind fun r183 =>
  (allocA Try.prog r183.2 38).bind fun r184 =>
  (stA Try.prog 38 r184.2 r184.1 r183.1).bind fun r185 =>
  exitA (iter (head ⟨[(12, (.v (Go.Value.int Go.IntKind.i64 0))), (11, r184.1), (49, r160.1), (45, r155.1), (15, r6.1), (8, (.v (Go.Value.int Go.IntKind.i64 64))), (7, (.v (Go.Value.int Go.IntKind.i64 0))), (6, r3.1), (4, r2.1), (3, r1.1), (0, a0), (1, a1), (2, a2)], r185.2⟩) (L_r15_Lay_1 E n n0) n ⟨[(12, (.v (Go.Value.int Go.IntKind.i64 0))), (11, r184.1), (49, r160.1), (45, r155.1), (15, r6.1), (8, (.v (Go.Value.int Go.IntKind.i64 64))), (7, (.v (Go.Value.int Go.IntKind.i64 0))), (6, r3.1), (4, r2.1), (3, r1.1), (0, a0), (1, a1), (2, a2)], r185.2⟩) (K_r15_Lay_1 E n n0) (X_r15_Lay_1 E n n0))))
theorem c_r15_Lay_eq : Try.f35.body = some c_r15_Lay := by kernel_rfl
theorem d_r15_Lay : drawsOk Try.prog md0 c_r15_Lay = true := by kernel_rfl
theorem F_r15_Lay_eq (E : FnA) (n n0 : Nat) (a0 a1 a2 : AV) (bx : Bx) : evK Try.prog md0 E 97 kp_r15_Lay n n0 c_r15_Lay ⟨[(0, a0), (1, a1), (2, a2)], bx⟩ (fun s => some (.normal, s)) (fun i s => some (.exit i, s)) = F_r15_Lay E n n0 a0 a1 a2 bx := by kernel_rfl

theorem E_r15_Lay (n : Nat) (a0 a1 a2 : AV) (bx : Bx) : evFn cx0 ext0 (n + 1) 35 [a0, a1, a2] bx = fin Try.prog [.cell 6 23, .tmp 7] (F_r15_Lay (evFn cx0 ext0 n) n bx.length a0 a1 a2 bx) := by
  rw [evFn_eq2 (cx := cx0) (c := c_r15_Lay) rfl Try.func35 c_r15_Lay_eq (of_decide_eq_true (by kernel_rfl)) d_r15_Lay (of_decide_eq_true (by kernel_rfl))]
  exact congrArg (fin Try.prog [.cell 6 23, .tmp 7]) (F_r15_Lay_eq (evFn cx0 ext0 n) n bx.length a0 a1 a2 bx)

/-- scupper/roll.Some$1 -/
def kp_roll_Some_1 : Option (List Nat) := some [0, 1, 3]
noncomputable def c_roll_Some_1 : Code := Try.f36.body.getD .skip
noncomputable def F_roll_Some_1 (E : FnA) (_n _n0 : Nat) (a0 a1 : AV) (bx : Bx) : Option (Ex × S) :=
  (pv bx (loadA Try.prog 32 bx a1)).bind fun r1 =>
  (callA E md0 r1.2 37 [r1.1, a0]).bind fun r2 =>
  some (.ret, ⟨[(3, r2.1), (3, (.v (Go.Value.bool false))), (0, a0), (1, a1)], r2.2⟩)
theorem c_roll_Some_1_eq : Try.f36.body = some c_roll_Some_1 := by kernel_rfl
theorem d_roll_Some_1 : drawsOk Try.prog md0 c_roll_Some_1 = true := by kernel_rfl
theorem F_roll_Some_1_eq (E : FnA) (n n0 : Nat) (a0 a1 : AV) (bx : Bx) : evK Try.prog md0 E 7 kp_roll_Some_1 n n0 c_roll_Some_1 ⟨[(0, a0), (1, a1)], bx⟩ (fun s => some (.normal, s)) (fun i s => some (.exit i, s)) = F_roll_Some_1 E n n0 a0 a1 bx := by kernel_rfl

theorem E_roll_Some_1 (n : Nat) (a0 a1 : AV) (bx : Bx) : evFn cx0 ext0 (n + 1) 36 [a0, a1] bx = fin Try.prog [.tmp 3] (F_roll_Some_1 (evFn cx0 ext0 n) n bx.length a0 a1 bx) := by
  rw [evFn_eq2 (cx := cx0) (c := c_roll_Some_1) rfl Try.func36 c_roll_Some_1_eq (of_decide_eq_true (by kernel_rfl)) d_roll_Some_1 (of_decide_eq_true (by kernel_rfl))]
  exact congrArg (fin Try.prog [.tmp 3]) (F_roll_Some_1_eq (evFn cx0 ext0 n) n bx.length a0 a1 bx)

/-- slices.Contains[[]int,int] -/
def kp_slices_Contains_int_int : Option (List Nat) := some [0, 1, 4]
noncomputable def c_slices_Contains_int_int : Code := Try.f37.body.getD .skip
noncomputable def F_slices_Contains_int_int (E : FnA) (_n _n0 : Nat) (a0 a1 : AV) (bx : Bx) : Option (Ex × S) :=
  (callA E md0 bx 49 [a0, a1]).bind fun r1 =>
  (pv r1.2 (binA Try.prog .geq 3 r1.1 (.v (Go.Value.int Go.IntKind.i64 0)))).bind fun r2 =>
  some (.ret, ⟨[(4, r2.1), (4, (.v (Go.Value.bool false))), (0, a0), (1, a1)], r2.2⟩)
theorem c_slices_Contains_int_int_eq : Try.f37.body = some c_slices_Contains_int_int := by kernel_rfl
theorem d_slices_Contains_int_int : drawsOk Try.prog md0 c_slices_Contains_int_int = true := by kernel_rfl
theorem F_slices_Contains_int_int_eq (E : FnA) (n n0 : Nat) (a0 a1 : AV) (bx : Bx) : evK Try.prog md0 E 9 kp_slices_Contains_int_int n n0 c_slices_Contains_int_int ⟨[(0, a0), (1, a1)], bx⟩ (fun s => some (.normal, s)) (fun i s => some (.exit i, s)) = F_slices_Contains_int_int E n n0 a0 a1 bx := by kernel_rfl

theorem E_slices_Contains_int_int (n : Nat) (a0 a1 : AV) (bx : Bx) : evFn cx0 ext0 (n + 1) 37 [a0, a1] bx = fin Try.prog [.tmp 4] (F_slices_Contains_int_int (evFn cx0 ext0 n) n bx.length a0 a1 bx) := by
  rw [evFn_eq2 (cx := cx0) (c := c_slices_Contains_int_int) rfl Try.func37 c_slices_Contains_int_int_eq (of_decide_eq_true (by kernel_rfl)) d_slices_Contains_int_int (of_decide_eq_true (by kernel_rfl))]
  exact congrArg (fin Try.prog [.tmp 4]) (F_slices_Contains_int_int_eq (evFn cx0 ext0 n) n bx.length a0 a1 bx)

/-- scupper/scupperref15.has -/
def kp_r15_has : Option (List Nat) := some [0, 1, 4, 5, 9, 17]
noncomputable def c_r15_has : Code := Try.f38.body.getD .skip
noncomputable def L_r15_has_0 (_E : FnA) (_n _n0 : Nat) (s : S) : Option (Ex × S) :=
  (pv s.bx (lenA Try.prog 32 (get s.env 0))).bind fun r7 =>
  (pv r7.2 (binA Try.prog .lss 3 (get s.env 5) r7.1)).bind fun r8 =>
  condA r8.1 ((pv r8.2 (indexAddrA Try.prog 32 (get (prune kp_r15_has s.env) 0) (get (prune kp_r15_has s.env) 5))).bind fun r9 =>
  (pv r9.2 (loadA Try.prog 3 r9.2 r9.1)).bind fun r10 =>
  (pv r10.2 (binA Try.prog .eql 3 r10.1 (get (prune kp_r15_has s.env) 1))).bind fun r11 =>
  condA r11.1 (some (.ret, ⟨((4, (.v (Go.Value.bool true))) :: (17, r11.1) :: (9, r8.1) :: (prune kp_r15_has (prune kp_r15_has (prune kp_r15_has s.env)))), r11.2⟩)) ((pv r11.2 (binA Try.prog .add 3 (get (prune kp_r15_has (prune kp_r15_has s.env)) 5) (.v (Go.Value.int Go.IntKind.i64 1)))).bind fun r12 =>
  some (.normal, ⟨((5, r12.1) :: (17, r11.1) :: (9, r8.1) :: (prune kp_r15_has (prune kp_r15_has (prune kp_r15_has s.env)))), r12.2⟩))) (some (.exit 0, ⟨((9, r8.1) :: (prune kp_r15_has s.env)), r8.2⟩))
noncomputable def B_r15_has_0 (_E : FnA) (_n _n0 : Nat) (x5 x4 x0 x1 : AV) (y : Bx) : Option (Ex × S) :=
  (pv y (lenA Try.prog 32 x0)).bind fun r1 =>
  (pv r1.2 (binA Try.prog .lss 3 x5 r1.1)).bind fun r2 =>
  condA r2.1 ((pv r2.2 (indexAddrA Try.prog 32 x0 x5)).bind fun r3 =>
  (pv r3.2 (loadA Try.prog 3 r3.2 r3.1)).bind fun r4 =>
  (pv r4.2 (binA Try.prog .eql 3 r4.1 x1)).bind fun r5 =>
  condA r5.1 (some (.ret, ⟨[(4, (.v (Go.Value.bool true))), (17, r5.1), (9, r2.1), (5, x5), (4, x4), (0, x0), (1, x1)], r5.2⟩)) ((pv r5.2 (binA Try.prog .add 3 x5 (.v (Go.Value.int Go.IntKind.i64 1)))).bind fun r6 =>
  some (.normal, ⟨[(5, r6.1), (17, r5.1), (9, r2.1), (5, x5), (4, x4), (0, x0), (1, x1)], r6.2⟩))) (some (.exit 0, ⟨[(9, r2.1), (5, x5), (4, x4), (0, x0), (1, x1)], r2.2⟩))
theorem L_r15_has_0_lit {E : FnA} {n n0 : Nat} {x5 x4 x0 x1 : AV} {y : Bx} {Q : Ex → S → Prop} (h : Ends (B_r15_has_0 E n n0 x5 x4 x0 x1 y) Q) : Ends (L_r15_has_0 E n n0 ⟨[(5, x5), (4, x4), (0, x0), (1, x1)], y⟩) Q := by
  rw [show L_r15_has_0 E n n0 ⟨[(5, x5), (4, x4), (0, x0), (1, x1)], y⟩ = B_r15_has_0 E n n0 x5 x4 x0 x1 y by kernel_rfl]
  exact h
noncomputable def K_r15_has_0 (_E : FnA) (_n _n0 : Nat) (t : S) : Option (Ex × S) :=
  some (.ret, ⟨((4, (.v (Go.Value.bool false))) :: (prune kp_r15_has t.env)), t.bx⟩)
noncomputable def X_r15_has_0 (_E : FnA) (_n _n0 : Nat) (i : Nat) (t : S) : Option (Ex × S) :=
  if i = 0 then some (.ret, ⟨((4, (.v (Go.Value.bool false))) :: (prune kp_r15_has t.env)), t.bx⟩) else some (.exit i, ⟨t.env, t.bx⟩)
noncomputable def X_r15_has_0_0 (_E : FnA) (_n _n0 : Nat) (x9 x5 x4 x0 x1 : AV) (y : Bx) : Option (Ex × S) :=
  some (.ret, ⟨[(4, (.v (Go.Value.bool false))), (9, x9), (5, x5), (4, x4), (0, x0), (1, x1)], y⟩)
theorem X_r15_has_0_0_lit {E : FnA} {n n0 : Nat} {x9 x5 x4 x0 x1 : AV} {y : Bx} {Q : Ex → S → Prop} (h : Ends (X_r15_has_0_0 E n n0 x9 x5 x4 x0 x1 y) Q) : Ends (X_r15_has_0 E n n0 0 ⟨[(9, x9), (5, x5), (4, x4), (0, x0), (1, x1)], y⟩) Q := by
  rw [show X_r15_has_0 E n n0 0 ⟨[(9, x9), (5, x5), (4, x4), (0, x0), (1, x1)], y⟩ = X_r15_has_0_0 E n n0 x9 x5 x4 x0 x1 y by kernel_rfl]
  exact h
noncomputable def F_r15_has (E : FnA) (n n0 : Nat) (a0 a1 : AV) (bx : Bx) : Option (Ex × S) :=
  exitA (iter (head ⟨[(5, (.v (Go.Value.int Go.IntKind.i64 0))), (4, (.v (Go.Value.bool false))), (0, a0), (1, a1)], bx⟩) (L_r15_has_0 E n n0) n ⟨[(5, (.v (Go.Value.int Go.IntKind.i64 0))), (4, (.v (Go.Value.bool false))), (0, a0), (1, a1)], bx⟩) (K_r15_has_0 E n n0) (X_r15_has_0 E n n0)
theorem c_r15_has_eq : Try.f38.body = some c_r15_has := by kernel_rfl
theorem d_r15_has : drawsOk Try.prog md0 c_r15_has = true := by kernel_rfl
theorem F_r15_has_eq (E : FnA) (n n0 : Nat) (a0 a1 : AV) (bx : Bx) : evK Try.prog md0 E 18 kp_r15_has n n0 c_r15_has ⟨[(0, a0), (1, a1)], bx⟩ (fun s => some (.normal, s)) (fun i s => some (.exit i, s)) = F_r15_has E n n0 a0 a1 bx := by kernel_rfl

theorem E_r15_has (n : Nat) (a0 a1 : AV) (bx : Bx) : evFn cx0 ext0 (n + 1) 38 [a0, a1] bx = fin Try.prog [.tmp 4] (F_r15_has (evFn cx0 ext0 n) n bx.length a0 a1 bx) := by
  rw [evFn_eq2 (cx := cx0) (c := c_r15_has) rfl Try.func38 c_r15_has_eq (of_decide_eq_true (by kernel_rfl)) d_r15_has (of_decide_eq_true (by kernel_rfl))]
  exact congrArg (fin Try.prog [.tmp 4]) (F_r15_has_eq (evFn cx0 ext0 n) n bx.length a0 a1 bx)

/-- scupper/scupperlaw14.sameIs -/
def kp_l14_sameIs : Option (List Nat) := some [0, 1, 2, 3, 4]
noncomputable def c_l14_sameIs : Code := Try.f39.body.getD .skip
noncomputable def F_l14_sameIs (E : FnA) (_n _n0 : Nat) (a0 a1 : AV) (bx : Bx) : Option (Ex × S) :=
  (boxA bx a0).bind fun r1 =>
  (boxA r1.2 a1).bind fun r2 =>
  (pv r2.2 (fieldAddrA Try.prog 34 r1.1 0)).bind fun r3 =>
  (pv r3.2 (loadA Try.prog 3 r3.2 r3.1)).bind fun r4 =>
  (pv r4.2 (fieldAddrA Try.prog 34 r2.1 0)).bind fun r5 =>
  (pv r5.2 (loadA Try.prog 3 r5.2 r5.1)).bind fun r6 =>
  (pv r6.2 (binA Try.prog .eql 3 r4.1 r6.1)).bind fun r7 =>
  (gsel true r7.2 (pv r7.2 (fieldAddrA Try.prog 34 r1.1 1)) r7.1).bind fun r8 =>
  (gsel true r8.2 (pv r8.2 (loadA Try.prog 3 r8.2 r8.1)) r7.1).bind fun r9 =>
  (gsel true r9.2 (pv r9.2 (fieldAddrA Try.prog 34 r2.1 1)) r7.1).bind fun r10 =>
  (gsel true r10.2 (pv r10.2 (loadA Try.prog 3 r10.2 r10.1)) r7.1).bind fun r11 =>
  (gsel true r11.2 (pv r11.2 (binA Try.prog .eql 3 r9.1 r11.1)) r7.1).bind fun r12 =>
  (pv r12.2 (pickA r7.1 r12.1 (.v (Go.Value.bool false)))).bind fun r13 =>
  (gsel true r13.2 (pv r13.2 (fieldAddrA Try.prog 34 r1.1 2)) r13.1).bind fun r14 =>
  (gsel true r14.2 (pv r14.2 (loadA Try.prog 3 r14.2 r14.1)) r13.1).bind fun r15 =>
  (gsel true r15.2 (pv r15.2 (fieldAddrA Try.prog 34 r2.1 2)) r13.1).bind fun r16 =>
  (gsel true r16.2 (pv r16.2 (loadA Try.prog 3 r16.2 r16.1)) r13.1).bind fun r17 =>
  (gsel true r17.2 (pv r17.2 (binA Try.prog .eql 3 r15.1 r17.1)) r13.1).bind fun r18 =>
  (pv r18.2 (pickA r13.1 r18.1 (.v (Go.Value.bool false)))).bind fun r19 =>
  (gsel true r19.2 (pv r19.2 (fieldAddrA Try.prog 34 r1.1 3)) r19.1).bind fun r20 =>
  (gsel true r20.2 (pv r20.2 (loadA Try.prog 31 r20.2 r20.1)) r19.1).bind fun r21 =>
  (gsel true r21.2 (convA Try.prog r21.2 31 9 r21.1) r19.1).bind fun r22 =>
  (gsel true r22.2 (pv r22.2 (fieldAddrA Try.prog 34 r2.1 3)) r19.1).bind fun r23 =>
  (gsel true r23.2 (pv r23.2 (loadA Try.prog 31 r23.2 r23.1)) r19.1).bind fun r24 =>
  (gsel true r24.2 (convA Try.prog r24.2 31 9 r24.1) r19.1).bind fun r25 =>
  (gsel true r25.2 (pv r25.2 (binA Try.prog .eql 9 r22.1 r25.1)) r19.1).bind fun r26 =>
  (pv r26.2 (pickA r19.1 r26.1 (.v (Go.Value.bool false)))).bind fun r27 =>
  (gsel true r27.2 (pv r27.2 (fieldAddrA Try.prog 34 r1.1 4)) r27.1).bind fun r28 =>
  (gsel true r28.2 (pv r28.2 (loadA Try.prog 3 r28.2 r28.1)) r27.1).bind fun r29 =>
  (gsel true r29.2 (pv r29.2 (fieldAddrA Try.prog 34 r2.1 4)) r27.1).bind fun r30 =>
  (gsel true r30.2 (pv r30.2 (loadA Try.prog 3 r30.2 r30.1)) r27.1).bind fun r31 =>
  (gsel true r31.2 (pv r31.2 (binA Try.prog .eql 3 r29.1 r31.1)) r27.1).bind fun r32 =>
  (pv r32.2 (pickA r27.1 r32.1 (.v (Go.Value.bool false)))).bind fun r33 =>
  (gsel true r33.2 (pv r33.2 (fieldAddrA Try.prog 34 r1.1 5)) r33.1).bind fun r34 =>
  (gsel true r34.2 (pv r34.2 (loadA Try.prog 32 r34.2 r34.1)) r33.1).bind fun r35 =>
  (gsel true r35.2 (pv r35.2 (fieldAddrA Try.prog 34 r2.1 5)) r33.1).bind fun r36 =>
  (gsel true r36.2 (pv r36.2 (loadA Try.prog 32 r36.2 r36.1)) r33.1).bind fun r37 =>
  (gsel true r37.2 (callA E md0 r37.2 50 [r35.1, r37.1]) r33.1).bind fun r38 =>
  (pv r38.2 (pickA r33.1 r38.1 (.v (Go.Value.bool false)))).bind fun r39 =>
  (gsel true r39.2 (pv r39.2 (fieldAddrA Try.prog 34 r1.1 6)) r39.1).bind fun r40 =>
  (gsel true r40.2 (pv r40.2 (loadA Try.prog 3 r40.2 r40.1)) r39.1).bind fun r41 =>
  (gsel true r41.2 (pv r41.2 (fieldAddrA Try.prog 34 r2.1 6)) r39.1).bind fun r42 =>
  (gsel true r42.2 (pv r42.2 (loadA Try.prog 3 r42.2 r42.1)) r39.1).bind fun r43 =>
  (gsel true r43.2 (pv r43.2 (binA Try.prog .eql 3 r41.1 r43.1)) r39.1).bind fun r44 =>
  (pv r44.2 (pickA r39.1 r44.1 (.v (Go.Value.bool false)))).bind fun r45 =>
  (gsel true r45.2 (pv r45.2 (fieldAddrA Try.prog 34 r1.1 7)) r45.1).bind fun r46 =>
  (gsel true r46.2 (pv r46.2 (loadA Try.prog 3 r46.2 r46.1)) r45.1).bind fun r47 =>
  (gsel true r47.2 (pv r47.2 (fieldAddrA Try.prog 34 r2.1 7)) r45.1).bind fun r48 =>
  (gsel true r48.2 (pv r48.2 (loadA Try.prog 3 r48.2 r48.1)) r45.1).bind fun r49 =>
  (gsel true r49.2 (pv r49.2 (binA Try.prog .eql 3 r47.1 r49.1)) r45.1).bind fun r50 =>
  (pv r50.2 (pickA r45.1 r50.1 (.v (Go.Value.bool false)))).bind fun r51 =>
  (gsel true r51.2 (pv r51.2 (fieldAddrA Try.prog 34 r1.1 8)) r51.1).bind fun r52 =>
  (gsel true r52.2 (pv r52.2 (loadA Try.prog 4 r52.2 r52.1)) r51.1).bind fun r53 =>
  (gsel true r53.2 (pv r53.2 (fieldAddrA Try.prog 34 r2.1 8)) r51.1).bind fun r54 =>
  (gsel true r54.2 (pv r54.2 (loadA Try.prog 4 r54.2 r54.1)) r51.1).bind fun r55 =>
  (gsel true r55.2 (pv r55.2 (binA Try.prog .eql 4 r53.1 r55.1)) r51.1).bind fun r56 =>
  (pv r56.2 (pickA r51.1 r56.1 (.v (Go.Value.bool false)))).bind fun r57 =>
  some (.ret, ⟨[(4, r57.1), (4, (.v (Go.Value.bool false))), (3, r2.1), (2, r1.1), (0, a0), (1, a1)], r57.2⟩)
theorem c_l14_sameIs_eq : Try.f39.body = some c_l14_sameIs := by kernel_rfl
theorem d_l14_sameIs : drawsOk Try.prog md0 c_l14_sameIs = true := by kernel_rfl
theorem F_l14_sameIs_eq (E : FnA) (n n0 : Nat) (a0 a1 : AV) (bx : Bx) : evK Try.prog md0 E 68 kp_l14_sameIs n n0 c_l14_sameIs ⟨[(0, a0), (1, a1)], bx⟩ (fun s => some (.normal, s)) (fun i s => some (.exit i, s)) = F_l14_sameIs E n n0 a0 a1 bx := by kernel_rfl

theorem E_l14_sameIs (n : Nat) (a0 a1 : AV) (bx : Bx) : evFn cx0 ext0 (n + 1) 39 [a0, a1] bx = fin Try.prog [.tmp 4] (F_l14_sameIs (evFn cx0 ext0 n) n bx.length a0 a1 bx) := by
  rw [evFn_eq2 (cx := cx0) (c := c_l14_sameIs) rfl Try.func39 c_l14_sameIs_eq (of_decide_eq_true (by kernel_rfl)) d_l14_sameIs (of_decide_eq_true (by kernel_rfl))]
  exact congrArg (fin Try.prog [.tmp 4]) (F_l14_sameIs_eq (evFn cx0 ext0 n) n bx.length a0 a1 bx)

/-- scupper/roll.room -/
def kp_roll_room : Option (List Nat) := some [0, 2, 4]
noncomputable def c_roll_room : Code := Try.f40.body.getD .skip
noncomputable def F_roll_room (_E : FnA) (_n _n0 : Nat) (a0 : AV) (bx : Bx) : Option (Ex × S) :=
  (pv bx (binA Try.prog .eql 3 a0 (.v (Go.Value.int Go.IntKind.i64 0)))).bind fun r1 =>
  condA r1.1 (some (.ret, ⟨[(2, (.v (Go.Value.int Go.IntKind.i64 64))), (4, r1.1), (2, (.v (Go.Value.int Go.IntKind.i64 0))), (0, a0)], r1.2⟩)) (some (.ret, ⟨[(2, (.v (Go.Value.int Go.IntKind.i64 54))), (4, r1.1), (2, (.v (Go.Value.int Go.IntKind.i64 0))), (0, a0)], r1.2⟩))
theorem c_roll_room_eq : Try.f40.body = some c_roll_room := by kernel_rfl
theorem d_roll_room : drawsOk Try.prog md0 c_roll_room = true := by kernel_rfl
theorem F_roll_room_eq (E : FnA) (n n0 : Nat) (a0 : AV) (bx : Bx) : evK Try.prog md0 E 5 kp_roll_room n n0 c_roll_room ⟨[(0, a0)], bx⟩ (fun s => some (.normal, s)) (fun i s => some (.exit i, s)) = F_roll_room E n n0 a0 bx := by kernel_rfl

theorem E_roll_room (n : Nat) (a0 : AV) (bx : Bx) : evFn cx0 ext0 (n + 1) 40 [a0] bx = fin Try.prog [.tmp 2] (F_roll_room (evFn cx0 ext0 n) n bx.length a0 bx) := by
  rw [evFn_eq2 (cx := cx0) (c := c_roll_room) rfl Try.func40 c_roll_room_eq (of_decide_eq_true (by kernel_rfl)) d_roll_room (of_decide_eq_true (by kernel_rfl))]
  exact congrArg (fin Try.prog [.tmp 2]) (F_roll_room_eq (evFn cx0 ext0 n) n bx.length a0 bx)

/-- scupper/seal.Put -/
def kp_seal_Put : Option (List Nat) := some [0, 1, 2, 5, 6, 7, 8, 9, 10, 13]
noncomputable def c_seal_Put : Code := Try.f41.body.getD .skip
noncomputable def F_seal_Put (E : FnA) (_n _n0 : Nat) (a0 a1 a2 : AV) (bx : Bx) : Option (Ex × S) :=
  (boxA bx a2).bind fun r1 =>
  (allocA Try.prog r1.2 23).bind fun r2 =>
  (allocA Try.prog r2.2 23).bind fun r3 =>
  (callA E md0 r3.2 45 [a0]).bind fun r4 =>
  (pv r4.2 (unA .not r4.1)).bind fun r5 =>
  condA r5.1 ((pv r5.2 (loadA Try.prog 23 r5.2 r3.1)).bind fun r6 =>
  (stA Try.prog 23 r6.2 r2.1 r6.1).bind fun r7 =>
  some (.ret, ⟨[(7, (.v (Go.Value.int Go.IntKind.i64 2))), (13, r5.1), (8, r3.1), (7, (.v (Go.Value.int Go.IntKind.i64 0))), (6, r2.1), (5, r1.1), (0, a0), (1, a1), (2, a2)], r7.2⟩)) ((pv r5.2 (sliceA Try.prog r5.2 23 r3.1 none none none)).bind fun r8 =>
  (pv r8.2 (sliceA Try.prog r8.2 38 r1.1 none none none)).bind fun r9 =>
  (copyA Try.prog r9.2 31 r8.1 r9.1).bind fun r10 =>
  (convA Try.prog r10.2 3 5 a0).bind fun r11 =>
  (pv r11.2 (binA Try.prog .sub 3 (.v (Go.Value.int Go.IntKind.i64 255)) a0)).bind fun r12 =>
  (convA Try.prog r12.2 3 5 r12.1).bind fun r13 =>
  (pv r13.2 (indexAddrA Try.prog 23 r3.1 (.v (Go.Value.int Go.IntKind.i64 54)))).bind fun r14 =>
  (stA Try.prog 5 r14.2 r14.1 r11.1).bind fun r15 =>
  (pv r15.2 (indexAddrA Try.prog 23 r3.1 (.v (Go.Value.int Go.IntKind.i64 55)))).bind fun r16 =>
  (stA Try.prog 5 r16.2 r16.1 r13.1).bind fun r17 =>
  (callA E md0 r17.2 51 [a1]).bind fun r18 =>
  (allocA Try.prog r18.2 72).bind fun r19 =>
  (stA Try.prog 72 r19.2 r19.1 r18.1).bind fun r20 =>
  (pv r20.2 (sliceA Try.prog r20.2 23 r3.1 (some (.v (Go.Value.int Go.IntKind.i64 56))) none none)).bind fun r21 =>
  (pv r21.2 (sliceA Try.prog r21.2 72 r19.1 none none none)).bind fun r22 =>
  (copyA Try.prog r22.2 31 r21.1 r22.1).bind fun r23 =>
  (pv r23.2 (sliceA Try.prog r23.2 23 r3.1 none (some (.v (Go.Value.int Go.IntKind.i64 60))) none)).bind fun r24 =>
  (buildSliceA Try.prog r24.2 77 1 [(0, r24.1)]).bind fun r25 =>
  (callA E md0 r25.2 52 [r25.1]).bind fun r26 =>
  (callA E md0 r26.2 51 [r26.1]).bind fun r27 =>
  (allocA Try.prog r27.2 72).bind fun r28 =>
  (stA Try.prog 72 r28.2 r28.1 r27.1).bind fun r29 =>
  (pv r29.2 (sliceA Try.prog r29.2 23 r3.1 (some (.v (Go.Value.int Go.IntKind.i64 60))) none none)).bind fun r30 =>
  (pv r30.2 (sliceA Try.prog r30.2 72 r28.1 none none none)).bind fun r31 =>
  (copyA Try.prog r31.2 31 r30.1 r31.1).bind fun r32 =>
  (pv r32.2 (loadA Try.prog 23 r32.2 r3.1)).bind fun r33 =>
  (stA Try.prog 23 r33.2 r2.1 r33.1).bind fun r34 =>
  some (.ret, ⟨[(7, (.v (Go.Value.int Go.IntKind.i64 0))), (10, r28.1), (9, r19.1), (13, r5.1), (8, r3.1), (7, (.v (Go.Value.int Go.IntKind.i64 0))), (6, r2.1), (5, r1.1), (0, a0), (1, a1), (2, a2)], r34.2⟩))
theorem c_seal_Put_eq : Try.f41.body = some c_seal_Put := by kernel_rfl
theorem d_seal_Put : drawsOk Try.prog md0 c_seal_Put = true := by kernel_rfl
theorem F_seal_Put_eq (E : FnA) (n n0 : Nat) (a0 a1 a2 : AV) (bx : Bx) : evK Try.prog md0 E 38 kp_seal_Put n n0 c_seal_Put ⟨[(0, a0), (1, a1), (2, a2)], bx⟩ (fun s => some (.normal, s)) (fun i s => some (.exit i, s)) = F_seal_Put E n n0 a0 a1 a2 bx := by kernel_rfl

theorem E_seal_Put (n : Nat) (a0 a1 a2 : AV) (bx : Bx) : evFn cx0 ext0 (n + 1) 41 [a0, a1, a2] bx = fin Try.prog [.cell 6 23, .tmp 7] (F_seal_Put (evFn cx0 ext0 n) n bx.length a0 a1 a2 bx) := by
  rw [evFn_eq2 (cx := cx0) (c := c_seal_Put) rfl Try.func41 c_seal_Put_eq (of_decide_eq_true (by kernel_rfl)) d_seal_Put (of_decide_eq_true (by kernel_rfl))]
  exact congrArg (fin Try.prog [.cell 6 23, .tmp 7]) (F_seal_Put_eq (evFn cx0 ext0 n) n bx.length a0 a1 a2 bx)

/-- scupper/scupperbase.Bytes -/
def kp_base_Bytes : Option (List Nat) := some [0, 2]
noncomputable def c_base_Bytes : Code := Try.f42.body.getD .skip
noncomputable def F_base_Bytes (_E : FnA) (_n n0 : Nat) (a0 : AV) (bx : Bx) : Option (Ex × S) :=
  (some (AV.bsl (List.length bx) 0 0 0, bx ++ [[]])).bind fun r1 =>
  (buildSliceA Try.prog r1.2 31 0 []).bind fun r2 =>
  (appA Try.prog n0 r2.2 31 r2.1 a0).bind fun r3 =>
  some (.ret, ⟨[(2, r3.1), (2, (r3.2.1 r1.1)), (0, (r3.2.1 a0))], r3.2.2⟩)
theorem c_base_Bytes_eq : Try.f42.body = some c_base_Bytes := by kernel_rfl
theorem d_base_Bytes : drawsOk Try.prog md0 c_base_Bytes = true := by kernel_rfl
theorem F_base_Bytes_eq (E : FnA) (n n0 : Nat) (a0 : AV) (bx : Bx) : evK Try.prog md0 E 6 kp_base_Bytes n n0 c_base_Bytes ⟨[(0, a0)], bx⟩ (fun s => some (.normal, s)) (fun i s => some (.exit i, s)) = F_base_Bytes E n n0 a0 bx := by kernel_rfl

theorem E_base_Bytes (n : Nat) (a0 : AV) (bx : Bx) : evFn cx0 ext0 (n + 1) 42 [a0] bx = fin Try.prog [.tmp 2] (F_base_Bytes (evFn cx0 ext0 n) n bx.length a0 bx) := by
  rw [evFn_eq2 (cx := cx0) (c := c_base_Bytes) rfl Try.func42 c_base_Bytes_eq (of_decide_eq_true (by kernel_rfl)) d_base_Bytes (of_decide_eq_true (by kernel_rfl))]
  exact congrArg (fin Try.prog [.tmp 2]) (F_base_Bytes_eq (evFn cx0 ext0 n) n bx.length a0 bx)

/-- scupper/scupperref01.number -/
def kp_r01_number : Option (List Nat) := some [0, 1, 2, 6, 7, 8, 9, 25, 29]
noncomputable def c_r01_number : Code := Try.f43.body.getD .skip
noncomputable def L_r01_number_0 (_E : FnA) (_n _n0 : Nat) (s : S) : Option (Ex × S) :=
  (pv s.bx (binA Try.prog .geq 3 (get s.env 9) (.v (Go.Value.int Go.IntKind.i64 0)))).bind fun r23 =>
  condA r23.1 ((pv r23.2 (binA Try.prog .mul 55 (.v (Go.Value.int Go.IntKind.u64 256)) (get (prune kp_r01_number s.env) 8))).bind fun r24 =>
  (pv r24.2 (binA Try.prog .add 3 (get (prune kp_r01_number s.env) 1) (get (prune kp_r01_number s.env) 9))).bind fun r25 =>
  (pv r25.2 (indexAddrA Try.prog 31 (get (prune kp_r01_number s.env) 0) r25.1)).bind fun r26 =>
  (pv r26.2 (loadA Try.prog 5 r26.2 r26.1)).bind fun r27 =>
  (convA Try.prog r27.2 5 55 r27.1).bind fun r28 =>
  (pv r28.2 (binA Try.prog .add 55 r24.1 r28.1)).bind fun r29 =>
  (pv r29.2 (binA Try.prog .sub 3 (get (prune kp_r01_number (prune kp_r01_number s.env)) 9) (.v (Go.Value.int Go.IntKind.i64 1)))).bind fun r30 =>
  some (.normal, ⟨((9, r30.1) :: (8, r29.1) :: (29, r23.1) :: (prune kp_r01_number (prune kp_r01_number (prune kp_r01_number s.env)))), r30.2⟩)) (some (.exit 0, ⟨((29, r23.1) :: (prune kp_r01_number s.env)), r23.2⟩))
noncomputable def B_r01_number_0 (_E : FnA) (_n _n0 : Nat) (x9 x8 x25 x7 x6 x0 x1 x2 : AV) (y : Bx) : Option (Ex × S) :=
  (pv y (binA Try.prog .geq 3 x9 (.v (Go.Value.int Go.IntKind.i64 0)))).bind fun r15 =>
  condA r15.1 ((pv r15.2 (binA Try.prog .mul 55 (.v (Go.Value.int Go.IntKind.u64 256)) x8)).bind fun r16 =>
  (pv r16.2 (binA Try.prog .add 3 x1 x9)).bind fun r17 =>
  (pv r17.2 (indexAddrA Try.prog 31 x0 r17.1)).bind fun r18 =>
  (pv r18.2 (loadA Try.prog 5 r18.2 r18.1)).bind fun r19 =>
  (convA Try.prog r19.2 5 55 r19.1).bind fun r20 =>
  (pv r20.2 (binA Try.prog .add 55 r16.1 r20.1)).bind fun r21 =>
  (pv r21.2 (binA Try.prog .sub 3 x9 (.v (Go.Value.int Go.IntKind.i64 1)))).bind fun r22 =>
  some (.normal, ⟨[(9, r22.1), (8, r21.1), (29, r15.1), (9, x9), (8, x8), (25, x25), (7, x7), (6, x6), (0, x0), (1, x1), (2, x2)], r22.2⟩)) (some (.exit 0, ⟨[(29, r15.1), (9, x9), (8, x8), (25, x25), (7, x7), (6, x6), (0, x0), (1, x1), (2, x2)], r15.2⟩))
theorem L_r01_number_0_lit {E : FnA} {n n0 : Nat} {x9 x8 x25 x7 x6 x0 x1 x2 : AV} {y : Bx} {Q : Ex → S → Prop} (h : Ends (B_r01_number_0 E n n0 x9 x8 x25 x7 x6 x0 x1 x2 y) Q) : Ends (L_r01_number_0 E n n0 ⟨[(9, x9), (8, x8), (25, x25), (7, x7), (6, x6), (0, x0), (1, x1), (2, x2)], y⟩) Q := by
  rw [show L_r01_number_0 E n n0 ⟨[(9, x9), (8, x8), (25, x25), (7, x7), (6, x6), (0, x0), (1, x1), (2, x2)], y⟩ = B_r01_number_0 E n n0 x9 x8 x25 x7 x6 x0 x1 x2 y by kernel_rfl]
  exact h
noncomputable def K_r01_number_0 (_E : FnA) (_n _n0 : Nat) (t : S) : Option (Ex × S) :=
  some (.ret, ⟨((7, (.v (Go.Value.int Go.IntKind.i64 0))) :: (6, (get t.env 8)) :: (prune kp_r01_number t.env)), t.bx⟩)
noncomputable def X_r01_number_0 (_E : FnA) (_n _n0 : Nat) (i : Nat) (t : S) : Option (Ex × S) :=
  if i = 0 then some (.ret, ⟨((7, (.v (Go.Value.int Go.IntKind.i64 0))) :: (6, (get t.env 8)) :: (prune kp_r01_number t.env)), t.bx⟩) else some (.exit i, ⟨t.env, t.bx⟩)
noncomputable def X_r01_number_0_0 (_E : FnA) (_n _n0 : Nat) (x29 x9 x8 x25 x7 x6 x0 x1 x2 : AV) (y : Bx) : Option (Ex × S) :=
  some (.ret, ⟨[(7, (.v (Go.Value.int Go.IntKind.i64 0))), (6, x8), (29, x29), (9, x9), (8, x8), (25, x25), (7, x7), (6, x6), (0, x0), (1, x1), (2, x2)], y⟩)
theorem X_r01_number_0_0_lit {E : FnA} {n n0 : Nat} {x29 x9 x8 x25 x7 x6 x0 x1 x2 : AV} {y : Bx} {Q : Ex → S → Prop} (h : Ends (X_r01_number_0_0 E n n0 x29 x9 x8 x25 x7 x6 x0 x1 x2 y) Q) : Ends (X_r01_number_0 E n n0 0 ⟨[(29, x29), (9, x9), (8, x8), (25, x25), (7, x7), (6, x6), (0, x0), (1, x1), (2, x2)], y⟩) Q := by
  rw [show X_r01_number_0 E n n0 0 ⟨[(29, x29), (9, x9), (8, x8), (25, x25), (7, x7), (6, x6), (0, x0), (1, x1), (2, x2)], y⟩ = X_r01_number_0_0 E n n0 x29 x9 x8 x25 x7 x6 x0 x1 x2 y by kernel_rfl]
  exact h
noncomputable def F_r01_number (E : FnA) (n n0 : Nat) (a0 a1 a2 : AV) (bx : Bx) : Option (Ex × S) :=
  (pv bx (binA Try.prog .lss 3 a1 (.v (Go.Value.int Go.IntKind.i64 0)))).bind fun r1 =>
  (gsel false r1.2 (some (a1, r1.2)) r1.1).bind fun r2 =>
  (gsel false r2.2 (some (a0, r2.2)) r1.1).bind fun r3 =>
  (gsel false r3.2 (pv r3.2 (lenA Try.prog 31 r3.1)) r1.1).bind fun r4 =>
  (gsel false r4.2 (pv r4.2 (binA Try.prog .gtr 3 r2.1 r4.1)) r1.1).bind fun r5 =>
  (pv r5.2 (pickA r1.1 (.v (Go.Value.bool true)) r5.1)).bind fun r6 =>
  (gsel false r6.2 (some (a0, r6.2)) r6.1).bind fun r7 =>
  (gsel false r7.2 (pv r7.2 (lenA Try.prog 31 r7.1)) r6.1).bind fun r8 =>
  (gsel false r8.2 (some (a1, r8.2)) r6.1).bind fun r9 =>
  (gsel false r9.2 (pv r9.2 (binA Try.prog .sub 3 r8.1 r9.1)) r6.1).bind fun r10 =>
  (gsel false r10.2 (some (a2, r10.2)) r6.1).bind fun r11 =>
  (gsel false r11.2 (pv r11.2 (binA Try.prog .lss 3 r10.1 r11.1)) r6.1).bind fun r12 =>
  (pv r12.2 (pickA r6.1 (.v (Go.Value.bool true)) r12.1)).bind fun r13 =>
  condA r13.1 (some (.ret, ⟨[(7, (.v (Go.Value.int Go.IntKind.i64 7))), (6, (.v (Go.Value.int Go.IntKind.u64 0))), (25, r13.1), (7, (.v (Go.Value.int Go.IntKind.i64 0))), (6, (.v (Go.Value.int Go.IntKind.u64 0))), (0, a0), (1, a1), (2, a2)], r13.2⟩)) ((pv r13.2 (binA Try.prog .sub 3 a2 (.v (Go.Value.int Go.IntKind.i64 1)))).bind fun r14 =>
  exitA (iter (head ⟨[(9, r14.1), (8, (.v (Go.Value.int Go.IntKind.u64 0))), (25, r13.1), (7, (.v (Go.Value.int Go.IntKind.i64 0))), (6, (.v (Go.Value.int Go.IntKind.u64 0))), (0, a0), (1, a1), (2, a2)], r14.2⟩) (L_r01_number_0 E n n0) n ⟨[(9, r14.1), (8, (.v (Go.Value.int Go.IntKind.u64 0))), (25, r13.1), (7, (.v (Go.Value.int Go.IntKind.i64 0))), (6, (.v (Go.Value.int Go.IntKind.u64 0))), (0, a0), (1, a1), (2, a2)], r14.2⟩) (K_r01_number_0 E n n0) (X_r01_number_0 E n n0))
theorem c_r01_number_eq : Try.f43.body = some c_r01_number := by kernel_rfl
theorem d_r01_number : drawsOk Try.prog md0 c_r01_number = true := by kernel_rfl
theorem F_r01_number_eq (E : FnA) (n n0 : Nat) (a0 a1 a2 : AV) (bx : Bx) : evK Try.prog md0 E 43 kp_r01_number n n0 c_r01_number ⟨[(0, a0), (1, a1), (2, a2)], bx⟩ (fun s => some (.normal, s)) (fun i s => some (.exit i, s)) = F_r01_number E n n0 a0 a1 a2 bx := by kernel_rfl

theorem E_r01_number (n : Nat) (a0 a1 a2 : AV) (bx : Bx) : evFn cx0 ext0 (n + 1) 43 [a0, a1, a2] bx = fin Try.prog [.tmp 6, .tmp 7] (F_r01_number (evFn cx0 ext0 n) n bx.length a0 a1 a2 bx) := by
  rw [evFn_eq2 (cx := cx0) (c := c_r01_number) rfl Try.func43 c_r01_number_eq (of_decide_eq_true (by kernel_rfl)) d_r01_number (of_decide_eq_true (by kernel_rfl))]
  exact congrArg (fin Try.prog [.tmp 6, .tmp 7]) (F_r01_number_eq (evFn cx0 ext0 n) n bx.length a0 a1 a2 bx)

/-- scupper/scupperref02.Add -/
def kp_r02_Add : Option (List Nat) := some [0, 1, 4, 5, 9]
noncomputable def c_r02_Add : Code := Try.f44.body.getD .skip
noncomputable def L_r02_Add_0 (E : FnA) (_n _n0 : Nat) (s : S) : Option (Ex × S) :=
  (pv s.bx (lenA Try.prog 31 (get s.env 1))).bind fun r9 =>
  (pv r9.2 (binA Try.prog .lss 3 (get s.env 5) r9.1)).bind fun r10 =>
  condA r10.1 ((pv r10.2 (indexAddrA Try.prog 31 (get (prune kp_r02_Add s.env) 1) (get (prune kp_r02_Add s.env) 5))).bind fun r11 =>
  (pv r11.2 (loadA Try.prog 5 r11.2 r11.1)).bind fun r12 =>
  (convA Try.prog r12.2 5 39 r12.1).bind fun r13 =>
  (pv r13.2 (binA Try.prog .xor 39 (get (prune kp_r02_Add s.env) 0) r13.1)).bind fun r14 =>
  (callA E md0 r14.2 53 [r14.1, (.v (Go.Value.int Go.IntKind.i64 8))]).bind fun r15 =>
  (pv r15.2 (binA Try.prog .add 3 (get (prune kp_r02_Add (prune kp_r02_Add s.env)) 5) (.v (Go.Value.int Go.IntKind.i64 1)))).bind fun r16 =>
  some (.normal, ⟨((5, r16.1) :: (0, r15.1) :: (9, r10.1) :: (prune kp_r02_Add (prune kp_r02_Add (prune kp_r02_Add s.env)))), r16.2⟩)) (some (.exit 0, ⟨((9, r10.1) :: (prune kp_r02_Add s.env)), r10.2⟩))
noncomputable def B_r02_Add_0 (E : FnA) (_n _n0 : Nat) (x5 x4 x0 x1 : AV) (y : Bx) : Option (Ex × S) :=
  (pv y (lenA Try.prog 31 x1)).bind fun r1 =>
  (pv r1.2 (binA Try.prog .lss 3 x5 r1.1)).bind fun r2 =>
  condA r2.1 ((pv r2.2 (indexAddrA Try.prog 31 x1 x5)).bind fun r3 =>
  (pv r3.2 (loadA Try.prog 5 r3.2 r3.1)).bind fun r4 =>
  (convA Try.prog r4.2 5 39 r4.1).bind fun r5 =>
  (pv r5.2 (binA Try.prog .xor 39 x0 r5.1)).bind fun r6 =>
  (callA E md0 r6.2 53 [r6.1, (.v (Go.Value.int Go.IntKind.i64 8))]).bind fun r7 =>
  (pv r7.2 (binA Try.prog .add 3 x5 (.v (Go.Value.int Go.IntKind.i64 1)))).bind fun r8 =>
  some (.normal, ⟨[(5, r8.1), (0, r7.1), (9, r2.1), (5, x5), (4, x4), (0, x0), (1, x1)], r8.2⟩)) (some (.exit 0, ⟨[(9, r2.1), (5, x5), (4, x4), (0, x0), (1, x1)], r2.2⟩))
theorem L_r02_Add_0_lit {E : FnA} {n n0 : Nat} {x5 x4 x0 x1 : AV} {y : Bx} {Q : Ex → S → Prop} (h : Ends (B_r02_Add_0 E n n0 x5 x4 x0 x1 y) Q) : Ends (L_r02_Add_0 E n n0 ⟨[(5, x5), (4, x4), (0, x0), (1, x1)], y⟩) Q := by
  rw [show L_r02_Add_0 E n n0 ⟨[(5, x5), (4, x4), (0, x0), (1, x1)], y⟩ = B_r02_Add_0 E n n0 x5 x4 x0 x1 y by kernel_rfl]
  exact h
noncomputable def K_r02_Add_0 (_E : FnA) (_n _n0 : Nat) (t : S) : Option (Ex × S) :=
  some (.ret, ⟨((4, (get t.env 0)) :: (prune kp_r02_Add t.env)), t.bx⟩)
noncomputable def X_r02_Add_0 (_E : FnA) (_n _n0 : Nat) (i : Nat) (t : S) : Option (Ex × S) :=
  if i = 0 then some (.ret, ⟨((4, (get t.env 0)) :: (prune kp_r02_Add t.env)), t.bx⟩) else some (.exit i, ⟨t.env, t.bx⟩)
noncomputable def X_r02_Add_0_0 (_E : FnA) (_n _n0 : Nat) (x9 x5 x4 x0 x1 : AV) (y : Bx) : Option (Ex × S) :=
  some (.ret, ⟨[(4, x0), (9, x9), (5, x5), (4, x4), (0, x0), (1, x1)], y⟩)
theorem X_r02_Add_0_0_lit {E : FnA} {n n0 : Nat} {x9 x5 x4 x0 x1 : AV} {y : Bx} {Q : Ex → S → Prop} (h : Ends (X_r02_Add_0_0 E n n0 x9 x5 x4 x0 x1 y) Q) : Ends (X_r02_Add_0 E n n0 0 ⟨[(9, x9), (5, x5), (4, x4), (0, x0), (1, x1)], y⟩) Q := by
  rw [show X_r02_Add_0 E n n0 0 ⟨[(9, x9), (5, x5), (4, x4), (0, x0), (1, x1)], y⟩ = X_r02_Add_0_0 E n n0 x9 x5 x4 x0 x1 y by kernel_rfl]
  exact h
noncomputable def F_r02_Add (E : FnA) (n n0 : Nat) (a0 a1 : AV) (bx : Bx) : Option (Ex × S) :=
  exitA (iter (head ⟨[(5, (.v (Go.Value.int Go.IntKind.i64 0))), (4, (.v (Go.Value.int Go.IntKind.u32 0))), (0, a0), (1, a1)], bx⟩) (L_r02_Add_0 E n n0) n ⟨[(5, (.v (Go.Value.int Go.IntKind.i64 0))), (4, (.v (Go.Value.int Go.IntKind.u32 0))), (0, a0), (1, a1)], bx⟩) (K_r02_Add_0 E n n0) (X_r02_Add_0 E n n0)
theorem c_r02_Add_eq : Try.f44.body = some c_r02_Add := by kernel_rfl
theorem d_r02_Add : drawsOk Try.prog md0 c_r02_Add = true := by kernel_rfl
theorem F_r02_Add_eq (E : FnA) (n n0 : Nat) (a0 a1 : AV) (bx : Bx) : evK Try.prog md0 E 21 kp_r02_Add n n0 c_r02_Add ⟨[(0, a0), (1, a1)], bx⟩ (fun s => some (.normal, s)) (fun i s => some (.exit i, s)) = F_r02_Add E n n0 a0 a1 bx := by kernel_rfl

theorem E_r02_Add (n : Nat) (a0 a1 : AV) (bx : Bx) : evFn cx0 ext0 (n + 1) 44 [a0, a1] bx = fin Try.prog [.tmp 4] (F_r02_Add (evFn cx0 ext0 n) n bx.length a0 a1 bx) := by
  rw [evFn_eq2 (cx := cx0) (c := c_r02_Add) rfl Try.func44 c_r02_Add_eq (of_decide_eq_true (by kernel_rfl)) d_r02_Add (of_decide_eq_true (by kernel_rfl))]
  exact congrArg (fin Try.prog [.tmp 4]) (F_r02_Add_eq (evFn cx0 ext0 n) n bx.length a0 a1 bx)

/-- scupper/seal.may -/
def kp_seal_may : Option (List Nat) := some [0, 2]
noncomputable def c_seal_may : Code := Try.f45.body.getD .skip
noncomputable def F_seal_may (_E : FnA) (_n _n0 : Nat) (a0 : AV) (bx : Bx) : Option (Ex × S) :=
  (pv bx (binA Try.prog .geq 3 a0 (.v (Go.Value.int Go.IntKind.i64 1)))).bind fun r1 =>
  (gsel true r1.2 (some (a0, r1.2)) r1.1).bind fun r2 =>
  (gsel true r2.2 (pv r2.2 (binA Try.prog .leq 3 r2.1 (.v (Go.Value.int Go.IntKind.i64 6)))) r1.1).bind fun r3 =>
  (pv r3.2 (pickA r1.1 r3.1 (.v (Go.Value.bool false)))).bind fun r4 =>
  some (.ret, ⟨[(2, r4.1), (2, (.v (Go.Value.bool false))), (0, a0)], r4.2⟩)
theorem c_seal_may_eq : Try.f45.body = some c_seal_may := by kernel_rfl
theorem d_seal_may : drawsOk Try.prog md0 c_seal_may = true := by kernel_rfl
theorem F_seal_may_eq (E : FnA) (n n0 : Nat) (a0 : AV) (bx : Bx) : evK Try.prog md0 E 9 kp_seal_may n n0 c_seal_may ⟨[(0, a0)], bx⟩ (fun s => some (.normal, s)) (fun i s => some (.exit i, s)) = F_seal_may E n n0 a0 bx := by kernel_rfl

theorem E_seal_may (n : Nat) (a0 : AV) (bx : Bx) : evFn cx0 ext0 (n + 1) 45 [a0] bx = fin Try.prog [.tmp 2] (F_seal_may (evFn cx0 ext0 n) n bx.length a0 bx) := by
  rw [evFn_eq2 (cx := cx0) (c := c_seal_may) rfl Try.func45 c_seal_may_eq (of_decide_eq_true (by kernel_rfl)) d_seal_may (of_decide_eq_true (by kernel_rfl))]
  exact congrArg (fin Try.prog [.tmp 2]) (F_seal_may_eq (evFn cx0 ext0 n) n bx.length a0 bx)

/-- scupper/seal.right -/
def kp_seal_right : Option (List Nat) := some [0, 1, 2, 3, 4, 5]
noncomputable def c_seal_right : Code := Try.f46.body.getD .skip
noncomputable def F_seal_right (E : FnA) (_n _n0 : Nat) (a0 : AV) (bx : Bx) : Option (Ex × S) :=
  (boxA bx a0).bind fun r1 =>
  (pv r1.2 (indexAddrA Try.prog 23 r1.1 (.v (Go.Value.int Go.IntKind.i64 54)))).bind fun r2 =>
  (pv r2.2 (loadA Try.prog 5 r2.2 r2.1)).bind fun r3 =>
  (convA Try.prog r3.2 5 3 r3.1).bind fun r4 =>
  (allocA Try.prog r4.2 23).bind fun r5 =>
  (pv r5.2 (loadA Try.prog 23 r5.2 r1.1)).bind fun r6 =>
  (callA E md0 r6.2 47 [r6.1]).bind fun r7 =>
  (pv r7.2 (sliceA Try.prog r7.2 23 r1.1 none (some (.v (Go.Value.int Go.IntKind.i64 54))) none)).bind fun r8 =>
  (pv r8.2 (arrPtrA Try.prog 38 r8.1)).bind fun r9 =>
  (pv r9.2 (loadA Try.prog 38 r9.2 r9.1)).bind fun r10 =>
  (callA E md0 r10.2 41 [r4.1, r7.1, r10.1]).bind fun r11 =>
  (pv r11.2 (tupA r11.1 0)).bind fun r12 =>
  (pv r12.2 (tupA r11.1 1)).bind fun r13 =>
  (stA Try.prog 23 r13.2 r5.1 r12.1).bind fun r14 =>
  (pv r14.2 (binA Try.prog .eql 28 r13.1 (.v (Go.Value.int Go.IntKind.i64 0)))).bind fun r15 =>
  (gsel true r15.2 (pv r15.2 (loadA Try.prog 23 r15.2 r5.1)) r15.1).bind fun r16 =>
  (gsel true r16.2 (pv r16.2 (loadA Try.prog 23 r16.2 r1.1)) r15.1).bind fun r17 =>
  (gsel true r17.2 (pv r17.2 (binA Try.prog .eql 23 r16.1 r17.1)) r15.1).bind fun r18 =>
  (pv r18.2 (pickA r15.1 r18.1 (.v (Go.Value.bool false)))).bind fun r19 =>
  some (.ret, ⟨[(2, r19.1), (5, r13.1), (4, r5.1), (3, r4.1), (2, (.v (Go.Value.bool false))), (1, r1.1), (0, a0)], r19.2⟩)
theorem c_seal_right_eq : Try.f46.body = some c_seal_right := by kernel_rfl
theorem d_seal_right : drawsOk Try.prog md0 c_seal_right = true := by kernel_rfl
theorem F_seal_right_eq (E : FnA) (n n0 : Nat) (a0 : AV) (bx : Bx) : evK Try.prog md0 E 26 kp_seal_right n n0 c_seal_right ⟨[(0, a0)], bx⟩ (fun s => some (.normal, s)) (fun i s => some (.exit i, s)) = F_seal_right E n n0 a0 bx := by kernel_rfl

theorem E_seal_right (n : Nat) (a0 : AV) (bx : Bx) : evFn cx0 ext0 (n + 1) 46 [a0] bx = fin Try.prog [.tmp 2] (F_seal_right (evFn cx0 ext0 n) n bx.length a0 bx) := by
  rw [evFn_eq2 (cx := cx0) (c := c_seal_right) rfl Try.func46 c_seal_right_eq (of_decide_eq_true (by kernel_rfl)) d_seal_right (of_decide_eq_true (by kernel_rfl))]
  exact congrArg (fin Try.prog [.tmp 2]) (F_seal_right_eq (evFn cx0 ext0 n) n bx.length a0 bx)

/-- scupper/seal.turnOf -/
def kp_seal_turnOf : Option (List Nat) := some [0, 1, 2, 3]
noncomputable def c_seal_turnOf : Code := Try.f47.body.getD .skip
noncomputable def F_seal_turnOf (E : FnA) (_n _n0 : Nat) (a0 : AV) (bx : Bx) : Option (Ex × S) :=
  (boxA bx a0).bind fun r1 =>
  (pv r1.2 (sliceA Try.prog r1.2 23 r1.1 none none none)).bind fun r2 =>
  (callA E md0 r2.2 54 [r2.1, (.v (Go.Value.int Go.IntKind.i64 56))]).bind fun r3 =>
  (pv r3.2 (tupA r3.1 0)).bind fun r4 =>
  (pv r4.2 (tupA r3.1 1)).bind fun r5 =>
  some (.ret, ⟨[(2, r4.1), (3, r4.1), (2, (.v (Go.Value.int Go.IntKind.u32 0))), (1, r1.1), (0, a0)], r5.2⟩)
theorem c_seal_turnOf_eq : Try.f47.body = some c_seal_turnOf := by kernel_rfl
theorem d_seal_turnOf : drawsOk Try.prog md0 c_seal_turnOf = true := by kernel_rfl
theorem F_seal_turnOf_eq (E : FnA) (n n0 : Nat) (a0 : AV) (bx : Bx) : evK Try.prog md0 E 11 kp_seal_turnOf n n0 c_seal_turnOf ⟨[(0, a0)], bx⟩ (fun s => some (.normal, s)) (fun i s => some (.exit i, s)) = F_seal_turnOf E n n0 a0 bx := by kernel_rfl

theorem E_seal_turnOf (n : Nat) (a0 : AV) (bx : Bx) : evFn cx0 ext0 (n + 1) 47 [a0] bx = fin Try.prog [.tmp 2] (F_seal_turnOf (evFn cx0 ext0 n) n bx.length a0 bx) := by
  rw [evFn_eq2 (cx := cx0) (c := c_seal_turnOf) rfl Try.func47 c_seal_turnOf_eq (of_decide_eq_true (by kernel_rfl)) d_seal_turnOf (of_decide_eq_true (by kernel_rfl))]
  exact congrArg (fin Try.prog [.tmp 2]) (F_seal_turnOf_eq (evFn cx0 ext0 n) n bx.length a0 bx)

/-- scupper/scupperref07.Put -/
def kp_r07_Put : Option (List Nat) := some [0, 1, 2, 5, 6, 7, 8, 11]
noncomputable def c_r07_Put : Code := Try.f48.body.getD .skip
noncomputable def F_r07_Put (E : FnA) (_n n0 : Nat) (a0 a1 a2 : AV) (bx : Bx) : Option (Ex × S) :=
  (boxA bx a2).bind fun r1 =>
  (allocA Try.prog r1.2 23).bind fun r2 =>
  (callA E md0 r2.2 30 [a0]).bind fun r3 =>
  (pv r3.2 (unA .not r3.1)).bind fun r4 =>
  condA r4.1 ((pv r4.2 (buildA Try.prog 23 [])).bind fun r5 =>
  (stA Try.prog 23 r5.2 r2.1 r5.1).bind fun r6 =>
  some (.ret, ⟨[(7, (.v (Go.Value.int Go.IntKind.i64 2))), (11, r4.1), (7, (.v (Go.Value.int Go.IntKind.i64 0))), (6, r2.1), (5, r1.1), (0, a0), (1, a1), (2, a2)], r6.2⟩)) ((buildSliceA Try.prog r4.2 31 0 []).bind fun r7 =>
  (pv r7.2 (sliceA Try.prog r7.2 38 r1.1 none none none)).bind fun r8 =>
  (appA Try.prog n0 r8.2 31 r7.1 r8.1).bind fun r9 =>
  (convA Try.prog r9.2.2 3 5 (r9.2.1 a0)).bind fun r10 =>
  (pv r10.2 (binA Try.prog .sub 3 (.v (Go.Value.int Go.IntKind.i64 255)) (r9.2.1 a0))).bind fun r11 =>
  (convA Try.prog r11.2 3 5 r11.1).bind fun r12 =>
  (buildSliceA Try.prog r12.2 31 2 [(0, r10.1), (1, r12.1)]).bind fun r13 =>
  (appA Try.prog n0 r13.2 31 r9.1 r13.1).bind fun r14 =>
  (callA E md0 r14.2.2 55 [(r14.2.1 (r9.2.1 a1))]).bind fun r15 =>
  (appA Try.prog n0 r15.2 31 r14.1 r15.1).bind fun r16 =>
  (callA E md0 r16.2.2 32 [r16.1]).bind fun r17 =>
  (callA E md0 r17.2 55 [r17.1]).bind fun r18 =>
  (appA Try.prog n0 r18.2 31 r16.1 r18.1).bind fun r19 =>
  (pv r19.2.2 (arrPtrA Try.prog 23 r19.1)).bind fun r20 =>
  (pv r20.2 (loadA Try.prog 23 r20.2 r20.1)).bind fun r21 =>
  (stA Try.prog 23 r21.2 (r19.2.1 (r16.2.1 (r14.2.1 (r9.2.1 r2.1)))) r21.1).bind fun r22 =>
  some (.ret, ⟨[(7, (.v (Go.Value.int Go.IntKind.i64 0))), (8, r19.1), (8, (r19.2.1 r16.1)), (8, (r19.2.1 (r16.2.1 r14.1))), (11, (r19.2.1 (r16.2.1 (r14.2.1 (r9.2.1 r4.1))))), (7, (r19.2.1 (r16.2.1 (r14.2.1 (r9.2.1 (.v (Go.Value.int Go.IntKind.i64 0))))))), (6, (r19.2.1 (r16.2.1 (r14.2.1 (r9.2.1 r2.1))))), (5, (r19.2.1 (r16.2.1 (r14.2.1 (r9.2.1 r1.1))))), (0, (r19.2.1 (r16.2.1 (r14.2.1 (r9.2.1 a0))))), (1, (r19.2.1 (r16.2.1 (r14.2.1 (r9.2.1 a1))))), (2, (r19.2.1 (r16.2.1 (r14.2.1 (r9.2.1 a2)))))], r22.2⟩))
theorem c_r07_Put_eq : Try.f48.body = some c_r07_Put := by kernel_rfl
theorem d_r07_Put : drawsOk Try.prog md0 c_r07_Put = true := by kernel_rfl
theorem F_r07_Put_eq (E : FnA) (n n0 : Nat) (a0 a1 a2 : AV) (bx : Bx) : evK Try.prog md0 E 35 kp_r07_Put n n0 c_r07_Put ⟨[(0, a0), (1, a1), (2, a2)], bx⟩ (fun s => some (.normal, s)) (fun i s => some (.exit i, s)) = F_r07_Put E n n0 a0 a1 a2 bx := by kernel_rfl

theorem E_r07_Put (n : Nat) (a0 a1 a2 : AV) (bx : Bx) : evFn cx0 ext0 (n + 1) 48 [a0, a1, a2] bx = fin Try.prog [.cell 6 23, .tmp 7] (F_r07_Put (evFn cx0 ext0 n) n bx.length a0 a1 a2 bx) := by
  rw [evFn_eq2 (cx := cx0) (c := c_r07_Put) rfl Try.func48 c_r07_Put_eq (of_decide_eq_true (by kernel_rfl)) d_r07_Put (of_decide_eq_true (by kernel_rfl))]
  exact congrArg (fin Try.prog [.cell 6 23, .tmp 7]) (F_r07_Put_eq (evFn cx0 ext0 n) n bx.length a0 a1 a2 bx)

/-- slices.Index[[]int,int] -/
def kp_slices_Index_int_int : Option (List Nat) := some [0, 1, 4, 5, 7, 8, 9, 16]
noncomputable def c_slices_Index_int_int : Code := Try.f49.body.getD .skip
noncomputable def L_slices_Index_int_int_0 (_E : FnA) (_n _n0 : Nat) (s : S) : Option (Ex × S) :=
  (pv s.bx (binA Try.prog .lss 3 (get s.env 8) (get s.env 7))).bind fun r7 =>
  condA r7.1 ((pv r7.2 (indexAddrA Try.prog 32 (get (prune kp_slices_Index_int_int (prune kp_slices_Index_int_int s.env)) 0) (get (prune kp_slices_Index_int_int s.env) 8))).bind fun r8 =>
  (pv r8.2 (loadA Try.prog 3 r8.2 r8.1)).bind fun r9 =>
  (pv r9.2 (binA Try.prog .eql 3 (get (prune kp_slices_Index_int_int (prune kp_slices_Index_int_int s.env)) 1) r9.1)).bind fun r10 =>
  condA r10.1 (some (.ret, ⟨((4, (get (prune kp_slices_Index_int_int s.env) 8)) :: (16, r10.1) :: (5, (get (prune kp_slices_Index_int_int s.env) 8)) :: (9, r7.1) :: (prune kp_slices_Index_int_int (prune kp_slices_Index_int_int (prune kp_slices_Index_int_int (prune kp_slices_Index_int_int s.env))))), r10.2⟩)) ((pv r10.2 (binA Try.prog .add 3 (get (prune kp_slices_Index_int_int (prune kp_slices_Index_int_int (prune kp_slices_Index_int_int s.env))) 8) (.v (Go.Value.int Go.IntKind.i64 1)))).bind fun r11 =>
  some (.normal, ⟨((8, r11.1) :: (16, r10.1) :: (5, (get (prune kp_slices_Index_int_int s.env) 8)) :: (9, r7.1) :: (prune kp_slices_Index_int_int (prune kp_slices_Index_int_int (prune kp_slices_Index_int_int (prune kp_slices_Index_int_int s.env))))), r11.2⟩))) (some (.exit 0, ⟨((9, r7.1) :: (prune kp_slices_Index_int_int s.env)), r7.2⟩))
noncomputable def B_slices_Index_int_int_0 (_E : FnA) (_n _n0 : Nat) (x8 x7 x4 x0 x1 : AV) (y : Bx) : Option (Ex × S) :=
  (pv y (binA Try.prog .lss 3 x8 x7)).bind fun r2 =>
  condA r2.1 ((pv r2.2 (indexAddrA Try.prog 32 x0 x8)).bind fun r3 =>
  (pv r3.2 (loadA Try.prog 3 r3.2 r3.1)).bind fun r4 =>
  (pv r4.2 (binA Try.prog .eql 3 x1 r4.1)).bind fun r5 =>
  condA r5.1 (some (.ret, ⟨[(4, x8), (16, r5.1), (5, x8), (9, r2.1), (8, x8), (7, x7), (4, x4), (0, x0), (1, x1)], r5.2⟩)) ((pv r5.2 (binA Try.prog .add 3 x8 (.v (Go.Value.int Go.IntKind.i64 1)))).bind fun r6 =>
  some (.normal, ⟨[(8, r6.1), (16, r5.1), (5, x8), (9, r2.1), (8, x8), (7, x7), (4, x4), (0, x0), (1, x1)], r6.2⟩))) (some (.exit 0, ⟨[(9, r2.1), (8, x8), (7, x7), (4, x4), (0, x0), (1, x1)], r2.2⟩))
theorem L_slices_Index_int_int_0_lit {E : FnA} {n n0 : Nat} {x8 x7 x4 x0 x1 : AV} {y : Bx} {Q : Ex → S → Prop} (h : Ends (B_slices_Index_int_int_0 E n n0 x8 x7 x4 x0 x1 y) Q) : Ends (L_slices_Index_int_int_0 E n n0 ⟨[(8, x8), (7, x7), (4, x4), (0, x0), (1, x1)], y⟩) Q := by
  rw [show L_slices_Index_int_int_0 E n n0 ⟨[(8, x8), (7, x7), (4, x4), (0, x0), (1, x1)], y⟩ = B_slices_Index_int_int_0 E n n0 x8 x7 x4 x0 x1 y by kernel_rfl]
  exact h
noncomputable def K_slices_Index_int_int_0 (_E : FnA) (_n _n0 : Nat) (t : S) : Option (Ex × S) :=
  some (.ret, ⟨((4, (.v (Go.Value.int Go.IntKind.i64 (-1)))) :: (prune kp_slices_Index_int_int t.env)), t.bx⟩)
noncomputable def X_slices_Index_int_int_0 (_E : FnA) (_n _n0 : Nat) (i : Nat) (t : S) : Option (Ex × S) :=
  if i = 0 then some (.ret, ⟨((4, (.v (Go.Value.int Go.IntKind.i64 (-1)))) :: (prune kp_slices_Index_int_int t.env)), t.bx⟩) else some (.exit i, ⟨t.env, t.bx⟩)
noncomputable def X_slices_Index_int_int_0_0 (_E : FnA) (_n _n0 : Nat) (x9 x8 x7 x4 x0 x1 : AV) (y : Bx) : Option (Ex × S) :=
  some (.ret, ⟨[(4, (.v (Go.Value.int Go.IntKind.i64 (-1)))), (9, x9), (8, x8), (7, x7), (4, x4), (0, x0), (1, x1)], y⟩)
theorem X_slices_Index_int_int_0_0_lit {E : FnA} {n n0 : Nat} {x9 x8 x7 x4 x0 x1 : AV} {y : Bx} {Q : Ex → S → Prop} (h : Ends (X_slices_Index_int_int_0_0 E n n0 x9 x8 x7 x4 x0 x1 y) Q) : Ends (X_slices_Index_int_int_0 E n n0 0 ⟨[(9, x9), (8, x8), (7, x7), (4, x4), (0, x0), (1, x1)], y⟩) Q := by
  rw [show X_slices_Index_int_int_0 E n n0 0 ⟨[(9, x9), (8, x8), (7, x7), (4, x4), (0, x0), (1, x1)], y⟩ = X_slices_Index_int_int_0_0 E n n0 x9 x8 x7 x4 x0 x1 y by kernel_rfl]
  exact h
noncomputable def F_slices_Index_int_int (E : FnA) (n n0 : Nat) (a0 a1 : AV) (bx : Bx) : Option (Ex × S) :=
  (pv bx (lenA Try.prog 32 a0)).bind fun r1 =>
  exitA (iter (head ⟨[(8, (.v (Go.Value.int Go.IntKind.i64 0))), (7, r1.1), (4, (.v (Go.Value.int Go.IntKind.i64 0))), (0, a0), (1, a1)], r1.2⟩) (L_slices_Index_int_int_0 E n n0) n ⟨[(8, (.v (Go.Value.int Go.IntKind.i64 0))), (7, r1.1), (4, (.v (Go.Value.int Go.IntKind.i64 0))), (0, a0), (1, a1)], r1.2⟩) (K_slices_Index_int_int_0 E n n0) (X_slices_Index_int_int_0 E n n0)
theorem c_slices_Index_int_int_eq : Try.f49.body = some c_slices_Index_int_int := by kernel_rfl
theorem d_slices_Index_int_int : drawsOk Try.prog md0 c_slices_Index_int_int = true := by kernel_rfl
theorem F_slices_Index_int_int_eq (E : FnA) (n n0 : Nat) (a0 a1 : AV) (bx : Bx) : evK Try.prog md0 E 19 kp_slices_Index_int_int n n0 c_slices_Index_int_int ⟨[(0, a0), (1, a1)], bx⟩ (fun s => some (.normal, s)) (fun i s => some (.exit i, s)) = F_slices_Index_int_int E n n0 a0 a1 bx := by kernel_rfl

theorem E_slices_Index_int_int (n : Nat) (a0 a1 : AV) (bx : Bx) : evFn cx0 ext0 (n + 1) 49 [a0, a1] bx = fin Try.prog [.tmp 4] (F_slices_Index_int_int (evFn cx0 ext0 n) n bx.length a0 a1 bx) := by
  rw [evFn_eq2 (cx := cx0) (c := c_slices_Index_int_int) rfl Try.func49 c_slices_Index_int_int_eq (of_decide_eq_true (by kernel_rfl)) d_slices_Index_int_int (of_decide_eq_true (by kernel_rfl))]
  exact congrArg (fin Try.prog [.tmp 4]) (F_slices_Index_int_int_eq (evFn cx0 ext0 n) n bx.length a0 a1 bx)

/-- scupper/scupperbase.SameInts -/
def kp_base_SameInts : Option (List Nat) := some [0, 1, 4, 5, 10, 14, 25]
noncomputable def c_base_SameInts : Code := Try.f50.body.getD .skip
noncomputable def L_base_SameInts_0 (_E : FnA) (_n _n0 : Nat) (s : S) : Option (Ex × S) :=
  (pv s.bx (lenA Try.prog 32 (get s.env 0))).bind fun r12 =>
  (pv r12.2 (binA Try.prog .lss 3 (get s.env 5) r12.1)).bind fun r13 =>
  condA r13.1 ((pv r13.2 (indexAddrA Try.prog 32 (get (prune kp_base_SameInts s.env) 0) (get (prune kp_base_SameInts s.env) 5))).bind fun r14 =>
  (pv r14.2 (loadA Try.prog 3 r14.2 r14.1)).bind fun r15 =>
  (pv r15.2 (indexAddrA Try.prog 32 (get (prune kp_base_SameInts s.env) 1) (get (prune kp_base_SameInts s.env) 5))).bind fun r16 =>
  (pv r16.2 (loadA Try.prog 3 r16.2 r16.1)).bind fun r17 =>
  (pv r17.2 (binA Try.prog .neq 3 r15.1 r17.1)).bind fun r18 =>
  condA r18.1 (some (.ret, ⟨((4, (.v (Go.Value.bool false))) :: (25, r18.1) :: (14, r13.1) :: (prune kp_base_SameInts (prune kp_base_SameInts (prune kp_base_SameInts s.env)))), r18.2⟩)) ((pv r18.2 (binA Try.prog .add 3 (get (prune kp_base_SameInts (prune kp_base_SameInts s.env)) 5) (.v (Go.Value.int Go.IntKind.i64 1)))).bind fun r19 =>
  some (.normal, ⟨((5, r19.1) :: (25, r18.1) :: (14, r13.1) :: (prune kp_base_SameInts (prune kp_base_SameInts (prune kp_base_SameInts s.env)))), r19.2⟩))) (some (.exit 0, ⟨((14, r13.1) :: (prune kp_base_SameInts s.env)), r13.2⟩))
noncomputable def B_base_SameInts_0 (_E : FnA) (_n _n0 : Nat) (x5 x10 x4 x0 x1 : AV) (y : Bx) : Option (Ex × S) :=
  (pv y (lenA Try.prog 32 x0)).bind fun r4 =>
  (pv r4.2 (binA Try.prog .lss 3 x5 r4.1)).bind fun r5 =>
  condA r5.1 ((pv r5.2 (indexAddrA Try.prog 32 x0 x5)).bind fun r6 =>
  (pv r6.2 (loadA Try.prog 3 r6.2 r6.1)).bind fun r7 =>
  (pv r7.2 (indexAddrA Try.prog 32 x1 x5)).bind fun r8 =>
  (pv r8.2 (loadA Try.prog 3 r8.2 r8.1)).bind fun r9 =>
  (pv r9.2 (binA Try.prog .neq 3 r7.1 r9.1)).bind fun r10 =>
  condA r10.1 (some (.ret, ⟨[(4, (.v (Go.Value.bool false))), (25, r10.1), (14, r5.1), (5, x5), (10, x10), (4, x4), (0, x0), (1, x1)], r10.2⟩)) ((pv r10.2 (binA Try.prog .add 3 x5 (.v (Go.Value.int Go.IntKind.i64 1)))).bind fun r11 =>
  some (.normal, ⟨[(5, r11.1), (25, r10.1), (14, r5.1), (5, x5), (10, x10), (4, x4), (0, x0), (1, x1)], r11.2⟩))) (some (.exit 0, ⟨[(14, r5.1), (5, x5), (10, x10), (4, x4), (0, x0), (1, x1)], r5.2⟩))
theorem L_base_SameInts_0_lit {E : FnA} {n n0 : Nat} {x5 x10 x4 x0 x1 : AV} {y : Bx} {Q : Ex → S → Prop} (h : Ends (B_base_SameInts_0 E n n0 x5 x10 x4 x0 x1 y) Q) : Ends (L_base_SameInts_0 E n n0 ⟨[(5, x5), (10, x10), (4, x4), (0, x0), (1, x1)], y⟩) Q := by
  rw [show L_base_SameInts_0 E n n0 ⟨[(5, x5), (10, x10), (4, x4), (0, x0), (1, x1)], y⟩ = B_base_SameInts_0 E n n0 x5 x10 x4 x0 x1 y by kernel_rfl]
  exact h
noncomputable def K_base_SameInts_0 (_E : FnA) (_n _n0 : Nat) (t : S) : Option (Ex × S) :=
  some (.ret, ⟨((4, (.v (Go.Value.bool true))) :: (prune kp_base_SameInts t.env)), t.bx⟩)
noncomputable def X_base_SameInts_0 (_E : FnA) (_n _n0 : Nat) (i : Nat) (t : S) : Option (Ex × S) :=
  if i = 0 then some (.ret, ⟨((4, (.v (Go.Value.bool true))) :: (prune kp_base_SameInts t.env)), t.bx⟩) else some (.exit i, ⟨t.env, t.bx⟩)
noncomputable def X_base_SameInts_0_0 (_E : FnA) (_n _n0 : Nat) (x14 x5 x10 x4 x0 x1 : AV) (y : Bx) : Option (Ex × S) :=
  some (.ret, ⟨[(4, (.v (Go.Value.bool true))), (14, x14), (5, x5), (10, x10), (4, x4), (0, x0), (1, x1)], y⟩)
theorem X_base_SameInts_0_0_lit {E : FnA} {n n0 : Nat} {x14 x5 x10 x4 x0 x1 : AV} {y : Bx} {Q : Ex → S → Prop} (h : Ends (X_base_SameInts_0_0 E n n0 x14 x5 x10 x4 x0 x1 y) Q) : Ends (X_base_SameInts_0 E n n0 0 ⟨[(14, x14), (5, x5), (10, x10), (4, x4), (0, x0), (1, x1)], y⟩) Q := by
  rw [show X_base_SameInts_0 E n n0 0 ⟨[(14, x14), (5, x5), (10, x10), (4, x4), (0, x0), (1, x1)], y⟩ = X_base_SameInts_0_0 E n n0 x14 x5 x10 x4 x0 x1 y by kernel_rfl]
  exact h
noncomputable def F_base_SameInts (E : FnA) (n n0 : Nat) (a0 a1 : AV) (bx : Bx) : Option (Ex × S) :=
  (pv bx (lenA Try.prog 32 a0)).bind fun r1 =>
  (pv r1.2 (lenA Try.prog 32 a1)).bind fun r2 =>
  (pv r2.2 (binA Try.prog .neq 3 r1.1 r2.1)).bind fun r3 =>
  condA r3.1 (some (.ret, ⟨[(4, (.v (Go.Value.bool false))), (10, r3.1), (4, (.v (Go.Value.bool false))), (0, a0), (1, a1)], r3.2⟩)) (exitA (iter (head ⟨[(5, (.v (Go.Value.int Go.IntKind.i64 0))), (10, r3.1), (4, (.v (Go.Value.bool false))), (0, a0), (1, a1)], r3.2⟩) (L_base_SameInts_0 E n n0) n ⟨[(5, (.v (Go.Value.int Go.IntKind.i64 0))), (10, r3.1), (4, (.v (Go.Value.bool false))), (0, a0), (1, a1)], r3.2⟩) (K_base_SameInts_0 E n n0) (X_base_SameInts_0 E n n0))
theorem c_base_SameInts_eq : Try.f50.body = some c_base_SameInts := by kernel_rfl
theorem d_base_SameInts : drawsOk Try.prog md0 c_base_SameInts = true := by kernel_rfl
theorem F_base_SameInts_eq (E : FnA) (n n0 : Nat) (a0 a1 : AV) (bx : Bx) : evK Try.prog md0 E 26 kp_base_SameInts n n0 c_base_SameInts ⟨[(0, a0), (1, a1)], bx⟩ (fun s => some (.normal, s)) (fun i s => some (.exit i, s)) = F_base_SameInts E n n0 a0 a1 bx := by kernel_rfl

theorem E_base_SameInts (n : Nat) (a0 a1 : AV) (bx : Bx) : evFn cx0 ext0 (n + 1) 50 [a0, a1] bx = fin Try.prog [.tmp 4] (F_base_SameInts (evFn cx0 ext0 n) n bx.length a0 a1 bx) := by
  rw [evFn_eq2 (cx := cx0) (c := c_base_SameInts) rfl Try.func50 c_base_SameInts_eq (of_decide_eq_true (by kernel_rfl)) d_base_SameInts (of_decide_eq_true (by kernel_rfl))]
  exact congrArg (fin Try.prog [.tmp 4]) (F_base_SameInts_eq (evFn cx0 ext0 n) n bx.length a0 a1 bx)

/-- scupper/num.Put32 -/
def kp_num_Put32 : Option (List Nat) := some [0, 2, 3, 4, 5, 6]
noncomputable def c_num_Put32 : Code := Try.f51.body.getD .skip
noncomputable def L_num_Put32_0 (_E : FnA) (_n _n0 : Nat) (s : S) : Option (Ex × S) :=
  (pv s.bx (binA Try.prog .lss 3 (get s.env 5) (.v (Go.Value.int Go.IntKind.i64 4)))).bind fun r10 =>
  condA r10.1 ((pv r10.2 (binA Try.prog .mul 3 (.v (Go.Value.int Go.IntKind.i64 8)) (get (prune kp_num_Put32 s.env) 5))).bind fun r11 =>
  (pv r11.2 (binA Try.prog .shr 39 (get (prune kp_num_Put32 (prune kp_num_Put32 s.env)) 0) r11.1)).bind fun r12 =>
  (convA Try.prog r12.2 39 5 r12.1).bind fun r13 =>
  (pv r13.2 (indexAddrA Try.prog 72 (get (prune kp_num_Put32 (prune kp_num_Put32 s.env)) 3) (get (prune kp_num_Put32 s.env) 5))).bind fun r14 =>
  (stA Try.prog 5 r14.2 r14.1 r13.1).bind fun r15 =>
  (pv r15.2 (binA Try.prog .add 3 (get (prune kp_num_Put32 (prune kp_num_Put32 (prune kp_num_Put32 s.env))) 5) (.v (Go.Value.int Go.IntKind.i64 1)))).bind fun r16 =>
  some (.normal, ⟨((5, r16.1) :: (4, (get (prune kp_num_Put32 s.env) 5)) :: (6, r10.1) :: (prune kp_num_Put32 (prune kp_num_Put32 (prune kp_num_Put32 (prune kp_num_Put32 s.env))))), r16.2⟩)) (some (.exit 0, ⟨((6, r10.1) :: (prune kp_num_Put32 s.env)), r10.2⟩))
noncomputable def B_num_Put32_0 (_E : FnA) (_n _n0 : Nat) (x5 x3 x2 x0 : AV) (y : Bx) : Option (Ex × S) :=
  (pv y (binA Try.prog .lss 3 x5 (.v (Go.Value.int Go.IntKind.i64 4)))).bind fun r3 =>
  condA r3.1 ((pv r3.2 (binA Try.prog .mul 3 (.v (Go.Value.int Go.IntKind.i64 8)) x5)).bind fun r4 =>
  (pv r4.2 (binA Try.prog .shr 39 x0 r4.1)).bind fun r5 =>
  (convA Try.prog r5.2 39 5 r5.1).bind fun r6 =>
  (pv r6.2 (indexAddrA Try.prog 72 x3 x5)).bind fun r7 =>
  (stA Try.prog 5 r7.2 r7.1 r6.1).bind fun r8 =>
  (pv r8.2 (binA Try.prog .add 3 x5 (.v (Go.Value.int Go.IntKind.i64 1)))).bind fun r9 =>
  some (.normal, ⟨[(5, r9.1), (4, x5), (6, r3.1), (5, x5), (3, x3), (2, x2), (0, x0)], r9.2⟩)) (some (.exit 0, ⟨[(6, r3.1), (5, x5), (3, x3), (2, x2), (0, x0)], r3.2⟩))
theorem L_num_Put32_0_lit {E : FnA} {n n0 : Nat} {x5 x3 x2 x0 : AV} {y : Bx} {Q : Ex → S → Prop} (h : Ends (B_num_Put32_0 E n n0 x5 x3 x2 x0 y) Q) : Ends (L_num_Put32_0 E n n0 ⟨[(5, x5), (3, x3), (2, x2), (0, x0)], y⟩) Q := by
  rw [show L_num_Put32_0 E n n0 ⟨[(5, x5), (3, x3), (2, x2), (0, x0)], y⟩ = B_num_Put32_0 E n n0 x5 x3 x2 x0 y by kernel_rfl]
  exact h
noncomputable def K_num_Put32_0 (_E : FnA) (_n _n0 : Nat) (t : S) : Option (Ex × S) :=
  (pv t.bx (loadA Try.prog 72 t.bx (get t.env 3))).bind fun r19 =>
  (stA Try.prog 72 r19.2 (get t.env 2) r19.1).bind fun r20 =>
  some (.ret, ⟨(prune kp_num_Put32 t.env), r20.2⟩)
noncomputable def X_num_Put32_0 (_E : FnA) (_n _n0 : Nat) (i : Nat) (t : S) : Option (Ex × S) :=
  if i = 0 then (pv t.bx (loadA Try.prog 72 t.bx (get t.env 3))).bind fun r17 =>
  (stA Try.prog 72 r17.2 (get t.env 2) r17.1).bind fun r18 =>
  some (.ret, ⟨(prune kp_num_Put32 t.env), r18.2⟩) else some (.exit i, ⟨t.env, t.bx⟩)
noncomputable def X_num_Put32_0_0 (_E : FnA) (_n _n0 : Nat) (x6 x5 x3 x2 x0 : AV) (y : Bx) : Option (Ex × S) :=
  (pv y (loadA Try.prog 72 y x3)).bind fun r21 =>
  (stA Try.prog 72 r21.2 x2 r21.1).bind fun r22 =>
  some (.ret, ⟨[(6, x6), (5, x5), (3, x3), (2, x2), (0, x0)], r22.2⟩)
theorem X_num_Put32_0_0_lit {E : FnA} {n n0 : Nat} {x6 x5 x3 x2 x0 : AV} {y : Bx} {Q : Ex → S → Prop} (h : Ends (X_num_Put32_0_0 E n n0 x6 x5 x3 x2 x0 y) Q) : Ends (X_num_Put32_0 E n n0 0 ⟨[(6, x6), (5, x5), (3, x3), (2, x2), (0, x0)], y⟩) Q := by
  rw [show X_num_Put32_0 E n n0 0 ⟨[(6, x6), (5, x5), (3, x3), (2, x2), (0, x0)], y⟩ = X_num_Put32_0_0 E n n0 x6 x5 x3 x2 x0 y by kernel_rfl]
  exact h
noncomputable def F_num_Put32 (E : FnA) (n n0 : Nat) (a0 : AV) (bx : Bx) : Option (Ex × S) :=
  (allocA Try.prog bx 72).bind fun r1 =>
  (allocA Try.prog r1.2 72).bind fun r2 =>
  exitA (iter (head ⟨[(5, (.v (Go.Value.int Go.IntKind.i64 0))), (3, r2.1), (2, r1.1), (0, a0)], r2.2⟩) (L_num_Put32_0 E n n0) n ⟨[(5, (.v (Go.Value.int Go.IntKind.i64 0))), (3, r2.1), (2, r1.1), (0, a0)], r2.2⟩) (K_num_Put32_0 E n n0) (X_num_Put32_0 E n n0)
theorem c_num_Put32_eq : Try.f51.body = some c_num_Put32 := by kernel_rfl
theorem d_num_Put32 : drawsOk Try.prog md0 c_num_Put32 = true := by kernel_rfl
theorem F_num_Put32_eq (E : FnA) (n n0 : Nat) (a0 : AV) (bx : Bx) : evK Try.prog md0 E 17 kp_num_Put32 n n0 c_num_Put32 ⟨[(0, a0)], bx⟩ (fun s => some (.normal, s)) (fun i s => some (.exit i, s)) = F_num_Put32 E n n0 a0 bx := by kernel_rfl

theorem E_num_Put32 (n : Nat) (a0 : AV) (bx : Bx) : evFn cx0 ext0 (n + 1) 51 [a0] bx = fin Try.prog [.cell 2 72] (F_num_Put32 (evFn cx0 ext0 n) n bx.length a0 bx) := by
  rw [evFn_eq2 (cx := cx0) (c := c_num_Put32) rfl Try.func51 c_num_Put32_eq (of_decide_eq_true (by kernel_rfl)) d_num_Put32 (of_decide_eq_true (by kernel_rfl))]
  exact congrArg (fin Try.prog [.cell 2 72]) (F_num_Put32_eq (evFn cx0 ext0 n) n bx.length a0 bx)

/-- scupper/crc.Of -/
def kp_crc_Of : Option (List Nat) := some [0, 2, 3, 5, 7, 8, 9, 10]
noncomputable def c_crc_Of : Code := Try.f52.body.getD .skip
noncomputable def L_crc_Of_0 (E : FnA) (_n _n0 : Nat) (s : S) : Option (Ex × S) :=
  (pv s.bx (binA Try.prog .lss 3 (get s.env 9) (get s.env 8))).bind fun r12 =>
  condA r12.1 ((pv r12.2 (indexAddrA Try.prog 77 (get (prune kp_crc_Of s.env) 7) (get (prune kp_crc_Of s.env) 9))).bind fun r13 =>
  (pv r13.2 (loadA Try.prog 31 r13.2 r13.1)).bind fun r14 =>
  (pv r14.2 (loadA Try.prog 79 r14.2 (get (prune kp_crc_Of (prune kp_crc_Of s.env)) 3))).bind fun r15 =>
  (callA E md0 r15.2 57 [r15.1, r14.1]).bind fun r16 =>
  (stA Try.prog 79 r16.2 (get (prune kp_crc_Of (prune kp_crc_Of s.env)) 3) r16.1).bind fun r17 =>
  (pv r17.2 (binA Try.prog .add 3 (get (prune kp_crc_Of (prune kp_crc_Of (prune kp_crc_Of s.env))) 9) (.v (Go.Value.int Go.IntKind.i64 1)))).bind fun r18 =>
  some (.normal, ⟨((9, r18.1) :: (5, r14.1) :: (10, r12.1) :: (prune kp_crc_Of (prune kp_crc_Of (prune kp_crc_Of (prune kp_crc_Of s.env))))), r18.2⟩)) (some (.exit 0, ⟨((10, r12.1) :: (prune kp_crc_Of s.env)), r12.2⟩))
noncomputable def B_crc_Of_0 (E : FnA) (_n _n0 : Nat) (x9 x8 x7 x3 x2 x0 : AV) (y : Bx) : Option (Ex × S) :=
  (pv y (binA Try.prog .lss 3 x9 x8)).bind fun r5 =>
  condA r5.1 ((pv r5.2 (indexAddrA Try.prog 77 x7 x9)).bind fun r6 =>
  (pv r6.2 (loadA Try.prog 31 r6.2 r6.1)).bind fun r7 =>
  (pv r7.2 (loadA Try.prog 79 r7.2 x3)).bind fun r8 =>
  (callA E md0 r8.2 57 [r8.1, r7.1]).bind fun r9 =>
  (stA Try.prog 79 r9.2 x3 r9.1).bind fun r10 =>
  (pv r10.2 (binA Try.prog .add 3 x9 (.v (Go.Value.int Go.IntKind.i64 1)))).bind fun r11 =>
  some (.normal, ⟨[(9, r11.1), (5, r7.1), (10, r5.1), (9, x9), (8, x8), (7, x7), (3, x3), (2, x2), (0, x0)], r11.2⟩)) (some (.exit 0, ⟨[(10, r5.1), (9, x9), (8, x8), (7, x7), (3, x3), (2, x2), (0, x0)], r5.2⟩))
theorem L_crc_Of_0_lit {E : FnA} {n n0 : Nat} {x9 x8 x7 x3 x2 x0 : AV} {y : Bx} {Q : Ex → S → Prop} (h : Ends (B_crc_Of_0 E n n0 x9 x8 x7 x3 x2 x0 y) Q) : Ends (L_crc_Of_0 E n n0 ⟨[(9, x9), (8, x8), (7, x7), (3, x3), (2, x2), (0, x0)], y⟩) Q := by
  rw [show L_crc_Of_0 E n n0 ⟨[(9, x9), (8, x8), (7, x7), (3, x3), (2, x2), (0, x0)], y⟩ = B_crc_Of_0 E n n0 x9 x8 x7 x3 x2 x0 y by kernel_rfl]
  exact h
noncomputable def K_crc_Of_0 (E : FnA) (_n _n0 : Nat) (t : S) : Option (Ex × S) :=
  (pv t.bx (loadA Try.prog 79 t.bx (get t.env 3))).bind fun r21 =>
  (callA E md0 r21.2 58 [r21.1]).bind fun r22 =>
  some (.ret, ⟨((2, r22.1) :: (prune kp_crc_Of t.env)), r22.2⟩)
noncomputable def X_crc_Of_0 (E : FnA) (_n _n0 : Nat) (i : Nat) (t : S) : Option (Ex × S) :=
  if i = 0 then (pv t.bx (loadA Try.prog 79 t.bx (get t.env 3))).bind fun r19 =>
  (callA E md0 r19.2 58 [r19.1]).bind fun r20 =>
  some (.ret, ⟨((2, r20.1) :: (prune kp_crc_Of t.env)), r20.2⟩) else some (.exit i, ⟨t.env, t.bx⟩)
noncomputable def X_crc_Of_0_0 (E : FnA) (_n _n0 : Nat) (x10 x9 x8 x7 x3 x2 x0 : AV) (y : Bx) : Option (Ex × S) :=
  (pv y (loadA Try.prog 79 y x3)).bind fun r23 =>
  (callA E md0 r23.2 58 [r23.1]).bind fun r24 =>
  some (.ret, ⟨[(2, r24.1), (10, x10), (9, x9), (8, x8), (7, x7), (3, x3), (2, x2), (0, x0)], r24.2⟩)
theorem X_crc_Of_0_0_lit {E : FnA} {n n0 : Nat} {x10 x9 x8 x7 x3 x2 x0 : AV} {y : Bx} {Q : Ex → S → Prop} (h : Ends (X_crc_Of_0_0 E n n0 x10 x9 x8 x7 x3 x2 x0 y) Q) : Ends (X_crc_Of_0 E n n0 0 ⟨[(10, x10), (9, x9), (8, x8), (7, x7), (3, x3), (2, x2), (0, x0)], y⟩) Q := by
  rw [show X_crc_Of_0 E n n0 0 ⟨[(10, x10), (9, x9), (8, x8), (7, x7), (3, x3), (2, x2), (0, x0)], y⟩ = X_crc_Of_0_0 E n n0 x10 x9 x8 x7 x3 x2 x0 y by kernel_rfl]
  exact h
noncomputable def F_crc_Of (E : FnA) (n n0 : Nat) (a0 : AV) (bx : Bx) : Option (Ex × S) :=
  (callA E md0 bx 56 []).bind fun r1 =>
  (allocA Try.prog r1.2 79).bind fun r2 =>
  (stA Try.prog 79 r2.2 r2.1 r1.1).bind fun r3 =>
  (pv r3.2 (lenA Try.prog 77 a0)).bind fun r4 =>
  exitA (iter (head ⟨[(9, (.v (Go.Value.int Go.IntKind.i64 0))), (8, r4.1), (7, a0), (3, r2.1), (2, (.v (Go.Value.int Go.IntKind.u32 0))), (0, a0)], r4.2⟩) (L_crc_Of_0 E n n0) n ⟨[(9, (.v (Go.Value.int Go.IntKind.i64 0))), (8, r4.1), (7, a0), (3, r2.1), (2, (.v (Go.Value.int Go.IntKind.u32 0))), (0, a0)], r4.2⟩) (K_crc_Of_0 E n n0) (X_crc_Of_0 E n n0)
theorem c_crc_Of_eq : Try.f52.body = some c_crc_Of := by kernel_rfl
theorem d_crc_Of : drawsOk Try.prog md0 c_crc_Of = true := by kernel_rfl
theorem F_crc_Of_eq (E : FnA) (n n0 : Nat) (a0 : AV) (bx : Bx) : evK Try.prog md0 E 19 kp_crc_Of n n0 c_crc_Of ⟨[(0, a0)], bx⟩ (fun s => some (.normal, s)) (fun i s => some (.exit i, s)) = F_crc_Of E n n0 a0 bx := by kernel_rfl

theorem E_crc_Of (n : Nat) (a0 : AV) (bx : Bx) : evFn cx0 ext0 (n + 1) 52 [a0] bx = fin Try.prog [.tmp 2] (F_crc_Of (evFn cx0 ext0 n) n bx.length a0 bx) := by
  rw [evFn_eq2 (cx := cx0) (c := c_crc_Of) rfl Try.func52 c_crc_Of_eq (of_decide_eq_true (by kernel_rfl)) d_crc_Of (of_decide_eq_true (by kernel_rfl))]
  exact congrArg (fin Try.prog [.tmp 2]) (F_crc_Of_eq (evFn cx0 ext0 n) n bx.length a0 bx)

/-- scupper/scupperref02.step -/
def kp_r02_step : Option (List Nat) := some [0, 1, 4, 5, 6, 9, 17]
noncomputable def c_r02_step : Code := Try.f53.body.getD .skip
noncomputable def L_r02_step_0 (_E : FnA) (_n _n0 : Nat) (s : S) : Option (Ex × S) :=
  (pv s.bx (binA Try.prog .lss 3 (get s.env 5) (get s.env 1))).bind fun r8 =>
  condA r8.1 ((pv r8.2 (binA Try.prog .rem 39 (get (prune kp_r02_step s.env) 0) (.v (Go.Value.int Go.IntKind.u32 2)))).bind fun r9 =>
  (pv r9.2 (binA Try.prog .quo 39 (get (prune kp_r02_step (prune kp_r02_step s.env)) 0) (.v (Go.Value.int Go.IntKind.u32 2)))).bind fun r10 =>
  (pv r10.2 (binA Try.prog .eql 39 r9.1 (.v (Go.Value.int Go.IntKind.u32 1)))).bind fun r11 =>
  condA r11.1 ((pv r11.2 (binA Try.prog .xor 39 r10.1 (.v (Go.Value.int Go.IntKind.u32 2197175160)))).bind fun r12 =>
  (pv r12.2 (binA Try.prog .add 3 (get (prune kp_r02_step (prune kp_r02_step (prune kp_r02_step (prune kp_r02_step (prune kp_r02_step s.env))))) 5) (.v (Go.Value.int Go.IntKind.i64 1)))).bind fun r13 =>
  some (.normal, ⟨((5, r13.1) :: (0, r12.1) :: (17, r11.1) :: (0, r10.1) :: (6, r9.1) :: (9, r8.1) :: (prune kp_r02_step (prune kp_r02_step (prune kp_r02_step (prune kp_r02_step (prune kp_r02_step (prune kp_r02_step s.env))))))), r13.2⟩)) ((pv r11.2 (binA Try.prog .add 3 (get (prune kp_r02_step (prune kp_r02_step (prune kp_r02_step (prune kp_r02_step s.env)))) 5) (.v (Go.Value.int Go.IntKind.i64 1)))).bind fun r14 =>
  some (.normal, ⟨((5, r14.1) :: (17, r11.1) :: (0, r10.1) :: (6, r9.1) :: (9, r8.1) :: (prune kp_r02_step (prune kp_r02_step (prune kp_r02_step (prune kp_r02_step (prune kp_r02_step s.env)))))), r14.2⟩))) (some (.exit 0, ⟨((9, r8.1) :: (prune kp_r02_step s.env)), r8.2⟩))
noncomputable def B_r02_step_0 (_E : FnA) (_n _n0 : Nat) (x5 x4 x0 x1 : AV) (y : Bx) : Option (Ex × S) :=
  (pv y (binA Try.prog .lss 3 x5 x1)).bind fun r1 =>
  condA r1.1 ((pv r1.2 (binA Try.prog .rem 39 x0 (.v (Go.Value.int Go.IntKind.u32 2)))).bind fun r2 =>
  (pv r2.2 (binA Try.prog .quo 39 x0 (.v (Go.Value.int Go.IntKind.u32 2)))).bind fun r3 =>
  (pv r3.2 (binA Try.prog .eql 39 r2.1 (.v (Go.Value.int Go.IntKind.u32 1)))).bind fun r4 =>
  condA r4.1 ((pv r4.2 (binA Try.prog .xor 39 r3.1 (.v (Go.Value.int Go.IntKind.u32 2197175160)))).bind fun r5 =>
  (pv r5.2 (binA Try.prog .add 3 x5 (.v (Go.Value.int Go.IntKind.i64 1)))).bind fun r6 =>
  some (.normal, ⟨[(5, r6.1), (0, r5.1), (17, r4.1), (0, r3.1), (6, r2.1), (9, r1.1), (5, x5), (4, x4), (0, x0), (1, x1)], r6.2⟩)) ((pv r4.2 (binA Try.prog .add 3 x5 (.v (Go.Value.int Go.IntKind.i64 1)))).bind fun r7 =>
  some (.normal, ⟨[(5, r7.1), (17, r4.1), (0, r3.1), (6, r2.1), (9, r1.1), (5, x5), (4, x4), (0, x0), (1, x1)], r7.2⟩))) (some (.exit 0, ⟨[(9, r1.1), (5, x5), (4, x4), (0, x0), (1, x1)], r1.2⟩))
theorem L_r02_step_0_lit {E : FnA} {n n0 : Nat} {x5 x4 x0 x1 : AV} {y : Bx} {Q : Ex → S → Prop} (h : Ends (B_r02_step_0 E n n0 x5 x4 x0 x1 y) Q) : Ends (L_r02_step_0 E n n0 ⟨[(5, x5), (4, x4), (0, x0), (1, x1)], y⟩) Q := by
  rw [show L_r02_step_0 E n n0 ⟨[(5, x5), (4, x4), (0, x0), (1, x1)], y⟩ = B_r02_step_0 E n n0 x5 x4 x0 x1 y by kernel_rfl]
  exact h
noncomputable def K_r02_step_0 (_E : FnA) (_n _n0 : Nat) (t : S) : Option (Ex × S) :=
  some (.ret, ⟨((4, (get t.env 0)) :: (prune kp_r02_step t.env)), t.bx⟩)
noncomputable def X_r02_step_0 (_E : FnA) (_n _n0 : Nat) (i : Nat) (t : S) : Option (Ex × S) :=
  if i = 0 then some (.ret, ⟨((4, (get t.env 0)) :: (prune kp_r02_step t.env)), t.bx⟩) else some (.exit i, ⟨t.env, t.bx⟩)
noncomputable def X_r02_step_0_0 (_E : FnA) (_n _n0 : Nat) (x9 x5 x4 x0 x1 : AV) (y : Bx) : Option (Ex × S) :=
  some (.ret, ⟨[(4, x0), (9, x9), (5, x5), (4, x4), (0, x0), (1, x1)], y⟩)
theorem X_r02_step_0_0_lit {E : FnA} {n n0 : Nat} {x9 x5 x4 x0 x1 : AV} {y : Bx} {Q : Ex → S → Prop} (h : Ends (X_r02_step_0_0 E n n0 x9 x5 x4 x0 x1 y) Q) : Ends (X_r02_step_0 E n n0 0 ⟨[(9, x9), (5, x5), (4, x4), (0, x0), (1, x1)], y⟩) Q := by
  rw [show X_r02_step_0 E n n0 0 ⟨[(9, x9), (5, x5), (4, x4), (0, x0), (1, x1)], y⟩ = X_r02_step_0_0 E n n0 x9 x5 x4 x0 x1 y by kernel_rfl]
  exact h
noncomputable def F_r02_step (E : FnA) (n n0 : Nat) (a0 a1 : AV) (bx : Bx) : Option (Ex × S) :=
  exitA (iter (head ⟨[(5, (.v (Go.Value.int Go.IntKind.i64 0))), (4, (.v (Go.Value.int Go.IntKind.u32 0))), (0, a0), (1, a1)], bx⟩) (L_r02_step_0 E n n0) n ⟨[(5, (.v (Go.Value.int Go.IntKind.i64 0))), (4, (.v (Go.Value.int Go.IntKind.u32 0))), (0, a0), (1, a1)], bx⟩) (K_r02_step_0 E n n0) (X_r02_step_0 E n n0)
theorem c_r02_step_eq : Try.f53.body = some c_r02_step := by kernel_rfl
theorem d_r02_step : drawsOk Try.prog md0 c_r02_step = true := by kernel_rfl
theorem F_r02_step_eq (E : FnA) (n n0 : Nat) (a0 a1 : AV) (bx : Bx) : evK Try.prog md0 E 21 kp_r02_step n n0 c_r02_step ⟨[(0, a0), (1, a1)], bx⟩ (fun s => some (.normal, s)) (fun i s => some (.exit i, s)) = F_r02_step E n n0 a0 a1 bx := by kernel_rfl

theorem E_r02_step (n : Nat) (a0 a1 : AV) (bx : Bx) : evFn cx0 ext0 (n + 1) 53 [a0, a1] bx = fin Try.prog [.tmp 4] (F_r02_step (evFn cx0 ext0 n) n bx.length a0 a1 bx) := by
  rw [evFn_eq2 (cx := cx0) (c := c_r02_step) rfl Try.func53 c_r02_step_eq (of_decide_eq_true (by kernel_rfl)) d_r02_step (of_decide_eq_true (by kernel_rfl))]
  exact congrArg (fin Try.prog [.tmp 4]) (F_r02_step_eq (evFn cx0 ext0 n) n bx.length a0 a1 bx)

/-- scupper/num.Get32 -/
def kp_num_Get32 : Option (List Nat) := some [0, 1, 4, 5]
noncomputable def c_num_Get32 : Code := Try.f54.body.getD .skip
noncomputable def F_num_Get32 (E : FnA) (_n _n0 : Nat) (a0 a1 : AV) (bx : Bx) : Option (Ex × S) :=
  (callA E md0 bx 59 [a0, a1, (.v (Go.Value.int Go.IntKind.i64 4))]).bind fun r1 =>
  (pv r1.2 (tupA r1.1 0)).bind fun r2 =>
  (pv r2.2 (tupA r1.1 1)).bind fun r3 =>
  some (.ret, ⟨[(5, r3.1), (4, r2.1), (5, (.v (Go.Value.int Go.IntKind.i64 0))), (4, (.v (Go.Value.int Go.IntKind.u32 0))), (0, a0), (1, a1)], r3.2⟩)
theorem c_num_Get32_eq : Try.f54.body = some c_num_Get32 := by kernel_rfl
theorem d_num_Get32 : drawsOk Try.prog md0 c_num_Get32 = true := by kernel_rfl
theorem F_num_Get32_eq (E : FnA) (n n0 : Nat) (a0 a1 : AV) (bx : Bx) : evK Try.prog md0 E 11 kp_num_Get32 n n0 c_num_Get32 ⟨[(0, a0), (1, a1)], bx⟩ (fun s => some (.normal, s)) (fun i s => some (.exit i, s)) = F_num_Get32 E n n0 a0 a1 bx := by kernel_rfl

theorem E_num_Get32 (n : Nat) (a0 a1 : AV) (bx : Bx) : evFn cx0 ext0 (n + 1) 54 [a0, a1] bx = fin Try.prog [.tmp 4, .tmp 5] (F_num_Get32 (evFn cx0 ext0 n) n bx.length a0 a1 bx) := by
  rw [evFn_eq2 (cx := cx0) (c := c_num_Get32) rfl Try.func54 c_num_Get32_eq (of_decide_eq_true (by kernel_rfl)) d_num_Get32 (of_decide_eq_true (by kernel_rfl))]
  exact congrArg (fin Try.prog [.tmp 4, .tmp 5]) (F_num_Get32_eq (evFn cx0 ext0 n) n bx.length a0 a1 bx)

/-- scupper/scupperref01.Put32 -/
def kp_r01_Put32 : Option (List Nat) := some [0, 2]
noncomputable def c_r01_Put32 : Code := Try.f55.body.getD .skip
noncomputable def F_r01_Put32 (_E : FnA) (_n _n0 : Nat) (a0 : AV) (bx : Bx) : Option (Ex × S) :=
  (some (AV.bsl (List.length bx) 0 0 0, bx ++ [[]])).bind fun r1 =>
  (pv r1.2 (binA Try.prog .rem 39 a0 (.v (Go.Value.int Go.IntKind.u32 256)))).bind fun r2 =>
  (convA Try.prog r2.2 39 5 r2.1).bind fun r3 =>
  (pv r3.2 (binA Try.prog .quo 39 a0 (.v (Go.Value.int Go.IntKind.u32 256)))).bind fun r4 =>
  (pv r4.2 (binA Try.prog .rem 39 r4.1 (.v (Go.Value.int Go.IntKind.u32 256)))).bind fun r5 =>
  (convA Try.prog r5.2 39 5 r5.1).bind fun r6 =>
  (pv r6.2 (binA Try.prog .quo 39 a0 (.v (Go.Value.int Go.IntKind.u32 65536)))).bind fun r7 =>
  (pv r7.2 (binA Try.prog .rem 39 r7.1 (.v (Go.Value.int Go.IntKind.u32 256)))).bind fun r8 =>
  (convA Try.prog r8.2 39 5 r8.1).bind fun r9 =>
  (pv r9.2 (binA Try.prog .quo 39 a0 (.v (Go.Value.int Go.IntKind.u32 16777216)))).bind fun r10 =>
  (convA Try.prog r10.2 39 5 r10.1).bind fun r11 =>
  (buildSliceA Try.prog r11.2 31 4 [(0, r3.1), (1, r6.1), (2, r9.1), (3, r11.1)]).bind fun r12 =>
  some (.ret, ⟨[(2, r12.1), (2, r1.1), (0, a0)], r12.2⟩)
theorem c_r01_Put32_eq : Try.f55.body = some c_r01_Put32 := by kernel_rfl
theorem d_r01_Put32 : drawsOk Try.prog md0 c_r01_Put32 = true := by kernel_rfl
theorem F_r01_Put32_eq (E : FnA) (n n0 : Nat) (a0 : AV) (bx : Bx) : evK Try.prog md0 E 18 kp_r01_Put32 n n0 c_r01_Put32 ⟨[(0, a0)], bx⟩ (fun s => some (.normal, s)) (fun i s => some (.exit i, s)) = F_r01_Put32 E n n0 a0 bx := by kernel_rfl

theorem E_r01_Put32 (n : Nat) (a0 : AV) (bx : Bx) : evFn cx0 ext0 (n + 1) 55 [a0] bx = fin Try.prog [.tmp 2] (F_r01_Put32 (evFn cx0 ext0 n) n bx.length a0 bx) := by
  rw [evFn_eq2 (cx := cx0) (c := c_r01_Put32) rfl Try.func55 c_r01_Put32_eq (of_decide_eq_true (by kernel_rfl)) d_r01_Put32 (of_decide_eq_true (by kernel_rfl))]
  exact congrArg (fin Try.prog [.tmp 2]) (F_r01_Put32_eq (evFn cx0 ext0 n) n bx.length a0 bx)

/-- scupper/crc.Begin -/
def kp_crc_Begin : Option (List Nat) := some [0]
noncomputable def c_crc_Begin : Code := Try.f56.body.getD .skip
noncomputable def F_crc_Begin (_E : FnA) (_n _n0 : Nat) (bx : Bx) : Option (Ex × S) :=
  (allocA Try.prog bx 79).bind fun r1 =>
  (pv r1.2 (buildA Try.prog 79 [(0, (.v (Go.Value.int Go.IntKind.u32 4294967295)))])).bind fun r2 =>
  (stA Try.prog 79 r2.2 r1.1 r2.1).bind fun r3 =>
  some (.ret, ⟨[(0, r1.1)], r3.2⟩)
theorem c_crc_Begin_eq : Try.f56.body = some c_crc_Begin := by kernel_rfl
theorem d_crc_Begin : drawsOk Try.prog md0 c_crc_Begin = true := by kernel_rfl
theorem F_crc_Begin_eq (E : FnA) (n n0 : Nat) (bx : Bx) : evK Try.prog md0 E 2 kp_crc_Begin n n0 c_crc_Begin ⟨[], bx⟩ (fun s => some (.normal, s)) (fun i s => some (.exit i, s)) = F_crc_Begin E n n0  bx := by kernel_rfl

theorem E_crc_Begin (n : Nat) (bx : Bx) : evFn cx0 ext0 (n + 1) 56 [] bx = fin Try.prog [.cell 0 79] (F_crc_Begin (evFn cx0 ext0 n) n bx.length  bx) := by
  rw [evFn_eq2 (cx := cx0) (c := c_crc_Begin) rfl Try.func56 c_crc_Begin_eq (of_decide_eq_true (by kernel_rfl)) d_crc_Begin (of_decide_eq_true (by kernel_rfl))]
  exact congrArg (fin Try.prog [.cell 0 79]) (F_crc_Begin_eq (evFn cx0 ext0 n) n bx.length  bx)

/-- (scupper/crc.Sum).Add -/
def kp_crc_Sum_Add : Option (List Nat) := some [0, 1, 2, 4, 6, 7, 8, 9, 10]
noncomputable def c_crc_Sum_Add : Code := Try.f57.body.getD .skip
noncomputable def L_crc_Sum_Add_0 (E : FnA) (_n _n0 : Nat) (s : S) : Option (Ex × S) :=
  (pv s.bx (binA Try.prog .lss 3 (get s.env 9) (get s.env 8))).bind fun r15 =>
  condA r15.1 ((pv r15.2 (indexAddrA Try.prog 31 (get (prune kp_crc_Sum_Add s.env) 7) (get (prune kp_crc_Sum_Add s.env) 9))).bind fun r16 =>
  (pv r16.2 (loadA Try.prog 5 r16.2 r16.1)).bind fun r17 =>
  (pv r17.2 (fieldAddrA Try.prog 79 (get (prune kp_crc_Sum_Add (prune kp_crc_Sum_Add s.env)) 2) 0)).bind fun r18 =>
  (pv r18.2 (loadA Try.prog 39 r18.2 r18.1)).bind fun r19 =>
  (convA Try.prog r19.2 5 39 r17.1).bind fun r20 =>
  (pv r20.2 (binA Try.prog .xor 39 r19.1 r20.1)).bind fun r21 =>
  (callA E md0 r21.2 60 [r21.1, (.v (Go.Value.int Go.IntKind.i64 8))]).bind fun r22 =>
  (pv r22.2 (fieldAddrA Try.prog 79 (get (prune kp_crc_Sum_Add (prune kp_crc_Sum_Add s.env)) 2) 0)).bind fun r23 =>
  (stA Try.prog 39 r23.2 r23.1 r22.1).bind fun r24 =>
  (pv r24.2 (binA Try.prog .add 3 (get (prune kp_crc_Sum_Add (prune kp_crc_Sum_Add (prune kp_crc_Sum_Add s.env))) 9) (.v (Go.Value.int Go.IntKind.i64 1)))).bind fun r25 =>
  some (.normal, ⟨((9, r25.1) :: (6, r17.1) :: (10, r15.1) :: (prune kp_crc_Sum_Add (prune kp_crc_Sum_Add (prune kp_crc_Sum_Add (prune kp_crc_Sum_Add s.env))))), r25.2⟩)) (some (.exit 0, ⟨((10, r15.1) :: (prune kp_crc_Sum_Add s.env)), r15.2⟩))
noncomputable def B_crc_Sum_Add_0 (E : FnA) (_n _n0 : Nat) (x9 x8 x7 x4 x2 x0 x1 : AV) (y : Bx) : Option (Ex × S) :=
  (pv y (binA Try.prog .lss 3 x9 x8)).bind fun r4 =>
  condA r4.1 ((pv r4.2 (indexAddrA Try.prog 31 x7 x9)).bind fun r5 =>
  (pv r5.2 (loadA Try.prog 5 r5.2 r5.1)).bind fun r6 =>
  (pv r6.2 (fieldAddrA Try.prog 79 x2 0)).bind fun r7 =>
  (pv r7.2 (loadA Try.prog 39 r7.2 r7.1)).bind fun r8 =>
  (convA Try.prog r8.2 5 39 r6.1).bind fun r9 =>
  (pv r9.2 (binA Try.prog .xor 39 r8.1 r9.1)).bind fun r10 =>
  (callA E md0 r10.2 60 [r10.1, (.v (Go.Value.int Go.IntKind.i64 8))]).bind fun r11 =>
  (pv r11.2 (fieldAddrA Try.prog 79 x2 0)).bind fun r12 =>
  (stA Try.prog 39 r12.2 r12.1 r11.1).bind fun r13 =>
  (pv r13.2 (binA Try.prog .add 3 x9 (.v (Go.Value.int Go.IntKind.i64 1)))).bind fun r14 =>
  some (.normal, ⟨[(9, r14.1), (6, r6.1), (10, r4.1), (9, x9), (8, x8), (7, x7), (4, x4), (2, x2), (0, x0), (1, x1)], r14.2⟩)) (some (.exit 0, ⟨[(10, r4.1), (9, x9), (8, x8), (7, x7), (4, x4), (2, x2), (0, x0), (1, x1)], r4.2⟩))
theorem L_crc_Sum_Add_0_lit {E : FnA} {n n0 : Nat} {x9 x8 x7 x4 x2 x0 x1 : AV} {y : Bx} {Q : Ex → S → Prop} (h : Ends (B_crc_Sum_Add_0 E n n0 x9 x8 x7 x4 x2 x0 x1 y) Q) : Ends (L_crc_Sum_Add_0 E n n0 ⟨[(9, x9), (8, x8), (7, x7), (4, x4), (2, x2), (0, x0), (1, x1)], y⟩) Q := by
  rw [show L_crc_Sum_Add_0 E n n0 ⟨[(9, x9), (8, x8), (7, x7), (4, x4), (2, x2), (0, x0), (1, x1)], y⟩ = B_crc_Sum_Add_0 E n n0 x9 x8 x7 x4 x2 x0 x1 y by kernel_rfl]
  exact h
noncomputable def K_crc_Sum_Add_0 (_E : FnA) (_n _n0 : Nat) (t : S) : Option (Ex × S) :=
  (pv t.bx (fieldAddrA Try.prog 79 (get t.env 2) 1)).bind fun r34 =>
  (pv r34.2 (loadA Try.prog 3 r34.2 r34.1)).bind fun r35 =>
  (pv r35.2 (lenA Try.prog 31 (get t.env 1))).bind fun r36 =>
  (pv r36.2 (binA Try.prog .add 3 r35.1 r36.1)).bind fun r37 =>
  (pv r37.2 (fieldAddrA Try.prog 79 (get t.env 2) 1)).bind fun r38 =>
  (stA Try.prog 3 r38.2 r38.1 r37.1).bind fun r39 =>
  (pv r39.2 (loadA Try.prog 79 r39.2 (get (prune kp_crc_Sum_Add t.env) 2))).bind fun r40 =>
  (stA Try.prog 79 r40.2 (get (prune kp_crc_Sum_Add t.env) 4) r40.1).bind fun r41 =>
  some (.ret, ⟨(prune kp_crc_Sum_Add (prune kp_crc_Sum_Add t.env)), r41.2⟩)
noncomputable def X_crc_Sum_Add_0 (_E : FnA) (_n _n0 : Nat) (i : Nat) (t : S) : Option (Ex × S) :=
  if i = 0 then (pv t.bx (fieldAddrA Try.prog 79 (get t.env 2) 1)).bind fun r26 =>
  (pv r26.2 (loadA Try.prog 3 r26.2 r26.1)).bind fun r27 =>
  (pv r27.2 (lenA Try.prog 31 (get t.env 1))).bind fun r28 =>
  (pv r28.2 (binA Try.prog .add 3 r27.1 r28.1)).bind fun r29 =>
  (pv r29.2 (fieldAddrA Try.prog 79 (get t.env 2) 1)).bind fun r30 =>
  (stA Try.prog 3 r30.2 r30.1 r29.1).bind fun r31 =>
  (pv r31.2 (loadA Try.prog 79 r31.2 (get (prune kp_crc_Sum_Add t.env) 2))).bind fun r32 =>
  (stA Try.prog 79 r32.2 (get (prune kp_crc_Sum_Add t.env) 4) r32.1).bind fun r33 =>
  some (.ret, ⟨(prune kp_crc_Sum_Add (prune kp_crc_Sum_Add t.env)), r33.2⟩) else some (.exit i, ⟨t.env, t.bx⟩)
noncomputable def X_crc_Sum_Add_0_0 (_E : FnA) (_n _n0 : Nat) (x10 x9 x8 x7 x4 x2 x0 x1 : AV) (y : Bx) : Option (Ex × S) :=
  (pv y (fieldAddrA Try.prog 79 x2 1)).bind fun r42 =>
  (pv r42.2 (loadA Try.prog 3 r42.2 r42.1)).bind fun r43 =>
  (pv r43.2 (lenA Try.prog 31 x1)).bind fun r44 =>
  (pv r44.2 (binA Try.prog .add 3 r43.1 r44.1)).bind fun r45 =>
  (pv r45.2 (fieldAddrA Try.prog 79 x2 1)).bind fun r46 =>
  (stA Try.prog 3 r46.2 r46.1 r45.1).bind fun r47 =>
  (pv r47.2 (loadA Try.prog 79 r47.2 x2)).bind fun r48 =>
  (stA Try.prog 79 r48.2 x4 r48.1).bind fun r49 =>
  some (.ret, ⟨[(10, x10), (9, x9), (8, x8), (7, x7), (4, x4), (2, x2), (0, x0), (1, x1)], r49.2⟩)
theorem X_crc_Sum_Add_0_0_lit {E : FnA} {n n0 : Nat} {x10 x9 x8 x7 x4 x2 x0 x1 : AV} {y : Bx} {Q : Ex → S → Prop} (h : Ends (X_crc_Sum_Add_0_0 E n n0 x10 x9 x8 x7 x4 x2 x0 x1 y) Q) : Ends (X_crc_Sum_Add_0 E n n0 0 ⟨[(10, x10), (9, x9), (8, x8), (7, x7), (4, x4), (2, x2), (0, x0), (1, x1)], y⟩) Q := by
  rw [show X_crc_Sum_Add_0 E n n0 0 ⟨[(10, x10), (9, x9), (8, x8), (7, x7), (4, x4), (2, x2), (0, x0), (1, x1)], y⟩ = X_crc_Sum_Add_0_0 E n n0 x10 x9 x8 x7 x4 x2 x0 x1 y by kernel_rfl]
  exact h
noncomputable def F_crc_Sum_Add (E : FnA) (n n0 : Nat) (a0 a1 : AV) (bx : Bx) : Option (Ex × S) :=
  (boxA bx a0).bind fun r1 =>
  (allocA Try.prog r1.2 79).bind fun r2 =>
  (pv r2.2 (lenA Try.prog 31 a1)).bind fun r3 =>
  exitA (iter (head ⟨[(9, (.v (Go.Value.int Go.IntKind.i64 0))), (8, r3.1), (7, a1), (4, r2.1), (2, r1.1), (0, a0), (1, a1)], r3.2⟩) (L_crc_Sum_Add_0 E n n0) n ⟨[(9, (.v (Go.Value.int Go.IntKind.i64 0))), (8, r3.1), (7, a1), (4, r2.1), (2, r1.1), (0, a0), (1, a1)], r3.2⟩) (K_crc_Sum_Add_0 E n n0) (X_crc_Sum_Add_0 E n n0)
theorem c_crc_Sum_Add_eq : Try.f57.body = some c_crc_Sum_Add := by kernel_rfl
theorem d_crc_Sum_Add : drawsOk Try.prog md0 c_crc_Sum_Add = true := by kernel_rfl
theorem F_crc_Sum_Add_eq (E : FnA) (n n0 : Nat) (a0 a1 : AV) (bx : Bx) : evK Try.prog md0 E 28 kp_crc_Sum_Add n n0 c_crc_Sum_Add ⟨[(0, a0), (1, a1)], bx⟩ (fun s => some (.normal, s)) (fun i s => some (.exit i, s)) = F_crc_Sum_Add E n n0 a0 a1 bx := by kernel_rfl

theorem E_crc_Sum_Add (n : Nat) (a0 a1 : AV) (bx : Bx) : evFn cx0 ext0 (n + 1) 57 [a0, a1] bx = fin Try.prog [.cell 4 79] (F_crc_Sum_Add (evFn cx0 ext0 n) n bx.length a0 a1 bx) := by
  rw [evFn_eq2 (cx := cx0) (c := c_crc_Sum_Add) rfl Try.func57 c_crc_Sum_Add_eq (of_decide_eq_true (by kernel_rfl)) d_crc_Sum_Add (of_decide_eq_true (by kernel_rfl))]
  exact congrArg (fin Try.prog [.cell 4 79]) (F_crc_Sum_Add_eq (evFn cx0 ext0 n) n bx.length a0 a1 bx)

/-- (scupper/crc.Sum).Value -/
def kp_crc_Sum_Value : Option (List Nat) := some [0, 1, 2]
noncomputable def c_crc_Sum_Value : Code := Try.f58.body.getD .skip
noncomputable def F_crc_Sum_Value (_E : FnA) (_n _n0 : Nat) (a0 : AV) (bx : Bx) : Option (Ex × S) :=
  (boxA bx a0).bind fun r1 =>
  (pv r1.2 (fieldAddrA Try.prog 79 r1.1 0)).bind fun r2 =>
  (pv r2.2 (loadA Try.prog 39 r2.2 r2.1)).bind fun r3 =>
  (pv r3.2 (unA .xor r3.1)).bind fun r4 =>
  some (.ret, ⟨[(2, r4.1), (2, (.v (Go.Value.int Go.IntKind.u32 0))), (1, r1.1), (0, a0)], r4.2⟩)
theorem c_crc_Sum_Value_eq : Try.f58.body = some c_crc_Sum_Value := by kernel_rfl
theorem d_crc_Sum_Value : drawsOk Try.prog md0 c_crc_Sum_Value = true := by kernel_rfl
theorem F_crc_Sum_Value_eq (E : FnA) (n n0 : Nat) (a0 : AV) (bx : Bx) : evK Try.prog md0 E 6 kp_crc_Sum_Value n n0 c_crc_Sum_Value ⟨[(0, a0)], bx⟩ (fun s => some (.normal, s)) (fun i s => some (.exit i, s)) = F_crc_Sum_Value E n n0 a0 bx := by kernel_rfl

theorem E_crc_Sum_Value (n : Nat) (a0 : AV) (bx : Bx) : evFn cx0 ext0 (n + 1) 58 [a0] bx = fin Try.prog [.tmp 2] (F_crc_Sum_Value (evFn cx0 ext0 n) n bx.length a0 bx) := by
  rw [evFn_eq2 (cx := cx0) (c := c_crc_Sum_Value) rfl Try.func58 c_crc_Sum_Value_eq (of_decide_eq_true (by kernel_rfl)) d_crc_Sum_Value (of_decide_eq_true (by kernel_rfl))]
  exact congrArg (fin Try.prog [.tmp 2]) (F_crc_Sum_Value_eq (evFn cx0 ext0 n) n bx.length a0 bx)

/-- scupper/num.get -/
def kp_num_get : Option (List Nat) := some [0, 1, 2, 6, 7, 8, 9, 25, 26, 27, 28]
noncomputable def c_num_get : Code := Try.f59.body.getD .skip
noncomputable def L_num_get_0 (_E : FnA) (_n _n0 : Nat) (s : S) : Option (Ex × S) :=
  (pv s.bx (binA Try.prog .lss 3 (get s.env 27) (get s.env 26))).bind fun r23 =>
  condA r23.1 ((pv r23.2 (binA Try.prog .add 3 (get (prune kp_num_get (prune kp_num_get s.env)) 1) (get (prune kp_num_get s.env) 27))).bind fun r24 =>
  (pv r24.2 (indexAddrA Try.prog 31 (get (prune kp_num_get (prune kp_num_get s.env)) 0) r24.1)).bind fun r25 =>
  (pv r25.2 (loadA Try.prog 5 r25.2 r25.1)).bind fun r26 =>
  (convA Try.prog r26.2 5 39 r26.1).bind fun r27 =>
  (pv r27.2 (binA Try.prog .mul 3 (.v (Go.Value.int Go.IntKind.i64 8)) (get (prune kp_num_get s.env) 27))).bind fun r28 =>
  (pv r28.2 (binA Try.prog .shl 39 r27.1 r28.1)).bind fun r29 =>
  (pv r29.2 (binA Try.prog .or 39 (get (prune kp_num_get (prune kp_num_get s.env)) 8) r29.1)).bind fun r30 =>
  (pv r30.2 (binA Try.prog .add 3 (get (prune kp_num_get (prune kp_num_get (prune kp_num_get s.env))) 27) (.v (Go.Value.int Go.IntKind.i64 1)))).bind fun r31 =>
  some (.normal, ⟨((27, r31.1) :: (8, r30.1) :: (9, (get (prune kp_num_get s.env) 27)) :: (28, r23.1) :: (prune kp_num_get (prune kp_num_get (prune kp_num_get (prune kp_num_get s.env))))), r31.2⟩)) (some (.exit 0, ⟨((28, r23.1) :: (prune kp_num_get s.env)), r23.2⟩))
noncomputable def B_num_get_0 (_E : FnA) (_n _n0 : Nat) (x27 x26 x8 x25 x7 x6 x0 x1 x2 : AV) (y : Bx) : Option (Ex × S) :=
  (pv y (binA Try.prog .lss 3 x27 x26)).bind fun r14 =>
  condA r14.1 ((pv r14.2 (binA Try.prog .add 3 x1 x27)).bind fun r15 =>
  (pv r15.2 (indexAddrA Try.prog 31 x0 r15.1)).bind fun r16 =>
  (pv r16.2 (loadA Try.prog 5 r16.2 r16.1)).bind fun r17 =>
  (convA Try.prog r17.2 5 39 r17.1).bind fun r18 =>
  (pv r18.2 (binA Try.prog .mul 3 (.v (Go.Value.int Go.IntKind.i64 8)) x27)).bind fun r19 =>
  (pv r19.2 (binA Try.prog .shl 39 r18.1 r19.1)).bind fun r20 =>
  (pv r20.2 (binA Try.prog .or 39 x8 r20.1)).bind fun r21 =>
  (pv r21.2 (binA Try.prog .add 3 x27 (.v (Go.Value.int Go.IntKind.i64 1)))).bind fun r22 =>
  some (.normal, ⟨[(27, r22.1), (8, r21.1), (9, x27), (28, r14.1), (27, x27), (26, x26), (8, x8), (25, x25), (7, x7), (6, x6), (0, x0), (1, x1), (2, x2)], r22.2⟩)) (some (.exit 0, ⟨[(28, r14.1), (27, x27), (26, x26), (8, x8), (25, x25), (7, x7), (6, x6), (0, x0), (1, x1), (2, x2)], r14.2⟩))
theorem L_num_get_0_lit {E : FnA} {n n0 : Nat} {x27 x26 x8 x25 x7 x6 x0 x1 x2 : AV} {y : Bx} {Q : Ex → S → Prop} (h : Ends (B_num_get_0 E n n0 x27 x26 x8 x25 x7 x6 x0 x1 x2 y) Q) : Ends (L_num_get_0 E n n0 ⟨[(27, x27), (26, x26), (8, x8), (25, x25), (7, x7), (6, x6), (0, x0), (1, x1), (2, x2)], y⟩) Q := by
  rw [show L_num_get_0 E n n0 ⟨[(27, x27), (26, x26), (8, x8), (25, x25), (7, x7), (6, x6), (0, x0), (1, x1), (2, x2)], y⟩ = B_num_get_0 E n n0 x27 x26 x8 x25 x7 x6 x0 x1 x2 y by kernel_rfl]
  exact h
noncomputable def K_num_get_0 (_E : FnA) (_n _n0 : Nat) (t : S) : Option (Ex × S) :=
  some (.ret, ⟨((7, (.v (Go.Value.int Go.IntKind.i64 0))) :: (6, (get t.env 8)) :: (prune kp_num_get t.env)), t.bx⟩)
noncomputable def X_num_get_0 (_E : FnA) (_n _n0 : Nat) (i : Nat) (t : S) : Option (Ex × S) :=
  if i = 0 then some (.ret, ⟨((7, (.v (Go.Value.int Go.IntKind.i64 0))) :: (6, (get t.env 8)) :: (prune kp_num_get t.env)), t.bx⟩) else some (.exit i, ⟨t.env, t.bx⟩)
noncomputable def X_num_get_0_0 (_E : FnA) (_n _n0 : Nat) (x28 x27 x26 x8 x25 x7 x6 x0 x1 x2 : AV) (y : Bx) : Option (Ex × S) :=
  some (.ret, ⟨[(7, (.v (Go.Value.int Go.IntKind.i64 0))), (6, x8), (28, x28), (27, x27), (26, x26), (8, x8), (25, x25), (7, x7), (6, x6), (0, x0), (1, x1), (2, x2)], y⟩)
theorem X_num_get_0_0_lit {E : FnA} {n n0 : Nat} {x28 x27 x26 x8 x25 x7 x6 x0 x1 x2 : AV} {y : Bx} {Q : Ex → S → Prop} (h : Ends (X_num_get_0_0 E n n0 x28 x27 x26 x8 x25 x7 x6 x0 x1 x2 y) Q) : Ends (X_num_get_0 E n n0 0 ⟨[(28, x28), (27, x27), (26, x26), (8, x8), (25, x25), (7, x7), (6, x6), (0, x0), (1, x1), (2, x2)], y⟩) Q := by
  rw [show X_num_get_0 E n n0 0 ⟨[(28, x28), (27, x27), (26, x26), (8, x8), (25, x25), (7, x7), (6, x6), (0, x0), (1, x1), (2, x2)], y⟩ = X_num_get_0_0 E n n0 x28 x27 x26 x8 x25 x7 x6 x0 x1 x2 y by kernel_rfl]
  exact h
noncomputable def F_num_get (E : FnA) (n n0 : Nat) (a0 a1 a2 : AV) (bx : Bx) : Option (Ex × S) :=
  (pv bx (binA Try.prog .lss 3 a1 (.v (Go.Value.int Go.IntKind.i64 0)))).bind fun r1 =>
  (gsel false r1.2 (some (a1, r1.2)) r1.1).bind fun r2 =>
  (gsel false r2.2 (some (a0, r2.2)) r1.1).bind fun r3 =>
  (gsel false r3.2 (pv r3.2 (lenA Try.prog 31 r3.1)) r1.1).bind fun r4 =>
  (gsel false r4.2 (pv r4.2 (binA Try.prog .gtr 3 r2.1 r4.1)) r1.1).bind fun r5 =>
  (pv r5.2 (pickA r1.1 (.v (Go.Value.bool true)) r5.1)).bind fun r6 =>
  (gsel false r6.2 (some (a0, r6.2)) r6.1).bind fun r7 =>
  (gsel false r7.2 (pv r7.2 (lenA Try.prog 31 r7.1)) r6.1).bind fun r8 =>
  (gsel false r8.2 (some (a1, r8.2)) r6.1).bind fun r9 =>
  (gsel false r9.2 (pv r9.2 (binA Try.prog .sub 3 r8.1 r9.1)) r6.1).bind fun r10 =>
  (gsel false r10.2 (some (a2, r10.2)) r6.1).bind fun r11 =>
  (gsel false r11.2 (pv r11.2 (binA Try.prog .lss 3 r10.1 r11.1)) r6.1).bind fun r12 =>
  (pv r12.2 (pickA r6.1 (.v (Go.Value.bool true)) r12.1)).bind fun r13 =>
  condA r13.1 (some (.ret, ⟨[(7, (.v (Go.Value.int Go.IntKind.i64 7))), (6, (.v (Go.Value.int Go.IntKind.u32 0))), (25, r13.1), (7, (.v (Go.Value.int Go.IntKind.i64 0))), (6, (.v (Go.Value.int Go.IntKind.u32 0))), (0, a0), (1, a1), (2, a2)], r13.2⟩)) (exitA (iter (head ⟨[(27, (.v (Go.Value.int Go.IntKind.i64 0))), (26, a2), (8, (.v (Go.Value.int Go.IntKind.u32 0))), (25, r13.1), (7, (.v (Go.Value.int Go.IntKind.i64 0))), (6, (.v (Go.Value.int Go.IntKind.u32 0))), (0, a0), (1, a1), (2, a2)], r13.2⟩) (L_num_get_0 E n n0) n ⟨[(27, (.v (Go.Value.int Go.IntKind.i64 0))), (26, a2), (8, (.v (Go.Value.int Go.IntKind.u32 0))), (25, r13.1), (7, (.v (Go.Value.int Go.IntKind.i64 0))), (6, (.v (Go.Value.int Go.IntKind.u32 0))), (0, a0), (1, a1), (2, a2)], r13.2⟩) (K_num_get_0 E n n0) (X_num_get_0 E n n0))
theorem c_num_get_eq : Try.f59.body = some c_num_get := by kernel_rfl
theorem d_num_get : drawsOk Try.prog md0 c_num_get = true := by kernel_rfl
theorem F_num_get_eq (E : FnA) (n n0 : Nat) (a0 a1 a2 : AV) (bx : Bx) : evK Try.prog md0 E 44 kp_num_get n n0 c_num_get ⟨[(0, a0), (1, a1), (2, a2)], bx⟩ (fun s => some (.normal, s)) (fun i s => some (.exit i, s)) = F_num_get E n n0 a0 a1 a2 bx := by kernel_rfl

theorem E_num_get (n : Nat) (a0 a1 a2 : AV) (bx : Bx) : evFn cx0 ext0 (n + 1) 59 [a0, a1, a2] bx = fin Try.prog [.tmp 6, .tmp 7] (F_num_get (evFn cx0 ext0 n) n bx.length a0 a1 a2 bx) := by
  rw [evFn_eq2 (cx := cx0) (c := c_num_get) rfl Try.func59 c_num_get_eq (of_decide_eq_true (by kernel_rfl)) d_num_get (of_decide_eq_true (by kernel_rfl))]
  exact congrArg (fin Try.prog [.tmp 6, .tmp 7]) (F_num_get_eq (evFn cx0 ext0 n) n bx.length a0 a1 a2 bx)

/-- scupper/crc.stepped -/
def kp_crc_stepped : Option (List Nat) := some [0, 1, 4, 5, 6, 7, 8]
noncomputable def c_crc_stepped : Code := Try.f60.body.getD .skip
noncomputable def L_crc_stepped_0 (_E : FnA) (_n _n0 : Nat) (s : S) : Option (Ex × S) :=
  (pv s.bx (binA Try.prog .lss 3 (get s.env 7) (get s.env 6))).bind fun r8 =>
  condA r8.1 ((pv r8.2 (binA Try.prog .and 39 (get (prune kp_crc_stepped s.env) 0) (.v (Go.Value.int Go.IntKind.u32 1)))).bind fun r9 =>
  (pv r9.2 (unA .neg r9.1)).bind fun r10 =>
  (pv r10.2 (binA Try.prog .shr 39 (get (prune kp_crc_stepped (prune kp_crc_stepped s.env)) 0) (.v (Go.Value.int Go.IntKind.u64 1)))).bind fun r11 =>
  (pv r11.2 (binA Try.prog .and 39 (.v (Go.Value.int Go.IntKind.u32 2197175160)) r10.1)).bind fun r12 =>
  (pv r12.2 (binA Try.prog .xor 39 r11.1 r12.1)).bind fun r13 =>
  (pv r13.2 (binA Try.prog .add 3 (get (prune kp_crc_stepped (prune kp_crc_stepped (prune kp_crc_stepped s.env))) 7) (.v (Go.Value.int Go.IntKind.i64 1)))).bind fun r14 =>
  some (.normal, ⟨((7, r14.1) :: (0, r13.1) :: (5, r10.1) :: (8, r8.1) :: (prune kp_crc_stepped (prune kp_crc_stepped (prune kp_crc_stepped (prune kp_crc_stepped s.env))))), r14.2⟩)) (some (.exit 0, ⟨((8, r8.1) :: (prune kp_crc_stepped s.env)), r8.2⟩))
noncomputable def B_crc_stepped_0 (_E : FnA) (_n _n0 : Nat) (x7 x6 x4 x0 x1 : AV) (y : Bx) : Option (Ex × S) :=
  (pv y (binA Try.prog .lss 3 x7 x6)).bind fun r1 =>
  condA r1.1 ((pv r1.2 (binA Try.prog .and 39 x0 (.v (Go.Value.int Go.IntKind.u32 1)))).bind fun r2 =>
  (pv r2.2 (unA .neg r2.1)).bind fun r3 =>
  (pv r3.2 (binA Try.prog .shr 39 x0 (.v (Go.Value.int Go.IntKind.u64 1)))).bind fun r4 =>
  (pv r4.2 (binA Try.prog .and 39 (.v (Go.Value.int Go.IntKind.u32 2197175160)) r3.1)).bind fun r5 =>
  (pv r5.2 (binA Try.prog .xor 39 r4.1 r5.1)).bind fun r6 =>
  (pv r6.2 (binA Try.prog .add 3 x7 (.v (Go.Value.int Go.IntKind.i64 1)))).bind fun r7 =>
  some (.normal, ⟨[(7, r7.1), (0, r6.1), (5, r3.1), (8, r1.1), (7, x7), (6, x6), (4, x4), (0, x0), (1, x1)], r7.2⟩)) (some (.exit 0, ⟨[(8, r1.1), (7, x7), (6, x6), (4, x4), (0, x0), (1, x1)], r1.2⟩))
theorem L_crc_stepped_0_lit {E : FnA} {n n0 : Nat} {x7 x6 x4 x0 x1 : AV} {y : Bx} {Q : Ex → S → Prop} (h : Ends (B_crc_stepped_0 E n n0 x7 x6 x4 x0 x1 y) Q) : Ends (L_crc_stepped_0 E n n0 ⟨[(7, x7), (6, x6), (4, x4), (0, x0), (1, x1)], y⟩) Q := by
  rw [show L_crc_stepped_0 E n n0 ⟨[(7, x7), (6, x6), (4, x4), (0, x0), (1, x1)], y⟩ = B_crc_stepped_0 E n n0 x7 x6 x4 x0 x1 y by kernel_rfl]
  exact h
noncomputable def K_crc_stepped_0 (_E : FnA) (_n _n0 : Nat) (t : S) : Option (Ex × S) :=
  some (.ret, ⟨((4, (get t.env 0)) :: (prune kp_crc_stepped t.env)), t.bx⟩)
noncomputable def X_crc_stepped_0 (_E : FnA) (_n _n0 : Nat) (i : Nat) (t : S) : Option (Ex × S) :=
  if i = 0 then some (.ret, ⟨((4, (get t.env 0)) :: (prune kp_crc_stepped t.env)), t.bx⟩) else some (.exit i, ⟨t.env, t.bx⟩)
noncomputable def X_crc_stepped_0_0 (_E : FnA) (_n _n0 : Nat) (x8 x7 x6 x4 x0 x1 : AV) (y : Bx) : Option (Ex × S) :=
  some (.ret, ⟨[(4, x0), (8, x8), (7, x7), (6, x6), (4, x4), (0, x0), (1, x1)], y⟩)
theorem X_crc_stepped_0_0_lit {E : FnA} {n n0 : Nat} {x8 x7 x6 x4 x0 x1 : AV} {y : Bx} {Q : Ex → S → Prop} (h : Ends (X_crc_stepped_0_0 E n n0 x8 x7 x6 x4 x0 x1 y) Q) : Ends (X_crc_stepped_0 E n n0 0 ⟨[(8, x8), (7, x7), (6, x6), (4, x4), (0, x0), (1, x1)], y⟩) Q := by
  rw [show X_crc_stepped_0 E n n0 0 ⟨[(8, x8), (7, x7), (6, x6), (4, x4), (0, x0), (1, x1)], y⟩ = X_crc_stepped_0_0 E n n0 x8 x7 x6 x4 x0 x1 y by kernel_rfl]
  exact h
noncomputable def F_crc_stepped (E : FnA) (n n0 : Nat) (a0 a1 : AV) (bx : Bx) : Option (Ex × S) :=
  exitA (iter (head ⟨[(7, (.v (Go.Value.int Go.IntKind.i64 0))), (6, a1), (4, (.v (Go.Value.int Go.IntKind.u32 0))), (0, a0), (1, a1)], bx⟩) (L_crc_stepped_0 E n n0) n ⟨[(7, (.v (Go.Value.int Go.IntKind.i64 0))), (6, a1), (4, (.v (Go.Value.int Go.IntKind.u32 0))), (0, a0), (1, a1)], bx⟩) (K_crc_stepped_0 E n n0) (X_crc_stepped_0 E n n0)
theorem c_crc_stepped_eq : Try.f60.body = some c_crc_stepped := by kernel_rfl
theorem d_crc_stepped : drawsOk Try.prog md0 c_crc_stepped = true := by kernel_rfl
theorem F_crc_stepped_eq (E : FnA) (n n0 : Nat) (a0 a1 : AV) (bx : Bx) : evK Try.prog md0 E 19 kp_crc_stepped n n0 c_crc_stepped ⟨[(0, a0), (1, a1)], bx⟩ (fun s => some (.normal, s)) (fun i s => some (.exit i, s)) = F_crc_stepped E n n0 a0 a1 bx := by kernel_rfl

theorem E_crc_stepped (n : Nat) (a0 a1 : AV) (bx : Bx) : evFn cx0 ext0 (n + 1) 60 [a0, a1] bx = fin Try.prog [.tmp 4] (F_crc_stepped (evFn cx0 ext0 n) n bx.length a0 a1 bx) := by
  rw [evFn_eq2 (cx := cx0) (c := c_crc_stepped) rfl Try.func60 c_crc_stepped_eq (of_decide_eq_true (by kernel_rfl)) d_crc_stepped (of_decide_eq_true (by kernel_rfl))]
  exact congrArg (fin Try.prog [.tmp 4]) (F_crc_stepped_eq (evFn cx0 ext0 n) n bx.length a0 a1 bx)

end Go.Sy
