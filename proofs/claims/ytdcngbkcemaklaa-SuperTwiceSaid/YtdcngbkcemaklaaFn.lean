/-
  What the functions under this seat's laws read as, in the reader's words; no conditions.
-/
import Derived.Test.YtdcngbkcemaklaaSyStep
import Derived.Test.YtdcngbkcemaklaaProg
import Derived.KernelRfl
namespace Go.Sy
open Go.Proofs
def kpT : FuncId → Option (List Nat)
  | 3 => some [0, 1, 2, 3, 4, 5, 6, 7, 8, 9, 10, 11, 12, 13, 14, 15, 48]
  | 4 => some [0, 2, 3, 4, 5, 6, 7, 8, 9, 10, 11, 12, 13, 14, 15, 66, 70, 93]
  | 5 => some [0, 2, 3, 4, 5, 6, 7, 10, 12, 13, 14, 15, 17, 40, 42, 57, 66, 86]
  | 6 => some [0, 1, 2, 3, 5, 6, 7, 8, 9, 11, 14, 15, 16, 17, 18, 19, 20, 21, 23, 29, 56, 73, 88, 97]
  | 7 => some [0, 1, 2, 3, 4, 5, 6, 8, 9, 13, 24, 25, 26]
  | 8 => some [0, 1, 2, 3, 4, 5, 6, 7, 11, 35]
  | 9 => some [0, 1, 2, 3, 4, 5, 6, 8, 9, 10, 11, 12, 45]
  | 10 => some [0, 1, 2, 3, 4, 6, 8, 10, 11, 12, 46]
  | 11 => some [0, 1, 2, 3, 4, 5, 12]
  | 12 => some [0, 1, 2, 5, 6, 7, 8, 11]
  | 13 => some [0, 1, 2, 3, 4, 5, 8]
  | 14 => some [0, 2]
  | 15 => some [0, 2, 3, 4, 5, 6, 7, 9, 10, 11, 14, 17, 18, 19, 20, 31, 45]
  | 16 => some [0, 2, 3, 4, 5, 6, 7, 14, 27]
  | 17 => some [0, 2, 3, 4, 6, 7, 9, 10, 11, 12, 14, 22, 31, 32, 33, 34, 50]
  | 18 => some [0, 2, 3, 4, 6, 7, 9, 10, 11, 13, 14, 23, 32, 50]
  | 19 => some [0, 1, 3, 4, 5, 6, 7, 9, 11, 12, 15, 45, 49]
  | 20 => some [0, 1, 2, 5]
  | 21 => some [0, 1, 2, 3, 27]
  | 22 => some [0, 2]
  | 23 => some [0, 1, 2, 30]
  | 24 => some [0, 2]
  | 25 => some [0, 1, 4, 5, 6, 7]
  | 26 => some [0, 1, 4, 5, 6, 7]
  | 27 => some [0, 1, 2, 5, 6, 7, 8, 9, 10, 13]
  | 28 => some [0, 2]
  | 29 => some [0, 2]
  | 30 => some [0, 2]
  | 31 => some [0, 1, 3, 4, 5, 6, 7, 12]
  | 32 => some [0, 1, 2, 4, 5, 6, 8, 9, 10, 18]
  | 33 => some [0, 1, 2, 4, 5, 6, 7, 8, 10]
  | 34 => some [0, 1, 2, 4, 5, 6, 7, 8, 9, 13]
  | 35 => some [0, 1, 4, 5, 6, 7]
  | 36 => some [0, 1, 2]
  | 37 => some [0, 1, 2, 6]
  | 38 => some [0, 1, 2, 6, 7, 8, 9, 25, 26, 27, 28]
  | 39 => some [0, 1, 2, 6, 7, 8, 9, 25, 29]
  | 40 => some [0, 2]
  | 41 => some [0, 2, 3, 4, 5, 6]
  | 42 => some [0, 2, 3, 5, 7, 8, 9, 10]
  | 43 => some [0, 1, 4, 5, 9]
  | 44 => some [0, 1, 2, 3, 4, 5]
  | 45 => some [0, 1, 2, 3]
  | 46 => some [0, 1, 2, 5]
  | 47 => some [0, 1, 2, 3, 6, 8, 19]
  | 48 => some [0]
  | 49 => some [0, 1, 2, 4, 6, 7, 8, 9, 10]
  | 50 => some [0, 1, 2]
  | 51 => some [0, 1, 4, 5, 6, 9, 17]
  | 52 => some [0, 1, 4, 5]
  | 53 => some [0, 1, 4, 5, 6, 7, 8]
  | _ => none
def md_l08_SuperFinds : FuncId → Md
  | 17 => .boxed
  | _ => .frozen
def md_l08_SuperMends : FuncId → Md
  | 17 => .boxed
  | 14 => .boxed
  | _ => .frozen
def md_l08_SuperTwice : FuncId → Md
  | 17 => .boxed
  | _ => .frozen
def mdT : FuncId → FuncId → Md
  | 4 => md_l08_SuperFinds
  | 5 => md_l08_SuperMends
  | 6 => md_l08_SuperTwice
  | _ => md0
noncomputable def cx0 : Cx := { P := Try.prog, md := mdT, kp := kpT }
def ext0 : FnA := fun _ _ _ => none
theorem ext0_ok (f : FuncId) (args : List AV) (bx : Bx) (r : AV) (bx' : Bx) (h : ext0 f args bx = some (r, bx')) : Sound cx0.P f args bx r bx' := by simp [ext0] at h
/-- scupper/scupperlaw08.SuperPuts -/
def kp_l08_SuperPuts : Option (List Nat) := some [0, 1, 2, 3, 4, 5, 6, 7, 8, 9, 10, 11, 12, 13, 14, 15, 48]
noncomputable def c_l08_SuperPuts : Code := Try.f3.body.getD .skip
noncomputable def F_l08_SuperPuts (E : FnA) (_n _n0 : Nat) (a0 a1 : AV) (bx : Bx) : Option (Ex × S) :=
  (boxA bx a0).bind fun r1 =>
  (boxA r1.2 a1).bind fun r2 =>
  (pv r2.2 (loadA Try.prog 23 r2.2 r1.1)).bind fun r3 =>
  (callA E md0 r3.2 7 [r3.1]).bind fun r4 =>
  (pv r4.2 (tupA r4.1 0)).bind fun r5 =>
  (pv r5.2 (tupA r4.1 1)).bind fun r6 =>
  (allocA Try.prog r6.2 25).bind fun r7 =>
  (stA Try.prog 25 r7.2 r7.1 r5.1).bind fun r8 =>
  (pv r8.2 (loadA Try.prog 23 r8.2 r1.1)).bind fun r9 =>
  (callA E md0 r9.2 8 [r9.1]).bind fun r10 =>
  (pv r10.2 (tupA r10.1 0)).bind fun r11 =>
  (pv r11.2 (tupA r10.1 1)).bind fun r12 =>
  (allocA Try.prog r12.2 25).bind fun r13 =>
  (stA Try.prog 25 r13.2 r13.1 r11.1).bind fun r14 =>
  (pv r14.2 (loadA Try.prog 25 r14.2 r2.1)).bind fun r15 =>
  (callA E md0 r15.2 9 [r15.1]).bind fun r16 =>
  (pv r16.2 (tupA r16.1 0)).bind fun r17 =>
  (pv r17.2 (tupA r16.1 1)).bind fun r18 =>
  (allocA Try.prog r18.2 23).bind fun r19 =>
  (stA Try.prog 23 r19.2 r19.1 r17.1).bind fun r20 =>
  (pv r20.2 (loadA Try.prog 25 r20.2 r2.1)).bind fun r21 =>
  (callA E md0 r21.2 10 [r21.1]).bind fun r22 =>
  (pv r22.2 (tupA r22.1 0)).bind fun r23 =>
  (pv r23.2 (tupA r22.1 1)).bind fun r24 =>
  (allocA Try.prog r24.2 23).bind fun r25 =>
  (stA Try.prog 23 r25.2 r25.1 r23.1).bind fun r26 =>
  (pv r26.2 (loadA Try.prog 23 r26.2 r1.1)).bind fun r27 =>
  (callA E md0 r27.2 11 [r27.1]).bind fun r28 =>
  (pv r28.2 (tupA r28.1 0)).bind fun r29 =>
  (pv r29.2 (tupA r28.1 1)).bind fun r30 =>
  (allocA Try.prog r30.2 32).bind fun r31 =>
  (stA Try.prog 32 r31.2 r31.1 r29.1).bind fun r32 =>
  (pv r32.2 (loadA Try.prog 25 r32.2 r13.1)).bind fun r33 =>
  (callA E md0 r33.2 12 [(.v (Go.Value.int Go.IntKind.i64 1)), (.v (Go.Value.int Go.IntKind.u32 1)), r33.1]).bind fun r34 =>
  (pv r34.2 (tupA r34.1 0)).bind fun r35 =>
  (pv r35.2 (tupA r34.1 1)).bind fun r36 =>
  (allocA Try.prog r36.2 32).bind fun r37 =>
  (stA Try.prog 32 r37.2 r37.1 r35.1).bind fun r38 =>
  (pv r38.2 (binA Try.prog .neq 26 r12.1 (.v (Go.Value.int Go.IntKind.i64 0)))).bind fun r39 =>
  condA r39.1 ((pv r39.2 (buildA Try.prog 32 [])).bind fun r40 =>
  (stA Try.prog 32 r40.2 r37.1 r40.1).bind fun r41 =>
  (pv r41.2 (loadA Try.prog 25 r41.2 r7.1)).bind fun r42 =>
  (pv r42.2 (loadA Try.prog 25 r42.2 r13.1)).bind fun r43 =>
  (pv r43.2 (binA Try.prog .eql 25 r42.1 r43.1)).bind fun r44 =>
  (gsel true r44.2 (some (r6.1, r44.2)) r44.1).bind fun r45 =>
  (gsel true r45.2 (some (r12.1, r45.2)) r44.1).bind fun r46 =>
  (gsel true r46.2 (pv r46.2 (binA Try.prog .eql 26 r45.1 r46.1)) r44.1).bind fun r47 =>
  (pv r47.2 (pickA r44.1 r47.1 (.v (Go.Value.bool false)))).bind fun r48 =>
  (gsel true r48.2 (pv r48.2 (loadA Try.prog 23 r48.2 r19.1)) r48.1).bind fun r49 =>
  (gsel true r49.2 (pv r49.2 (loadA Try.prog 23 r49.2 r25.1)) r48.1).bind fun r50 =>
  (gsel true r50.2 (pv r50.2 (binA Try.prog .eql 23 r49.1 r50.1)) r48.1).bind fun r51 =>
  (pv r51.2 (pickA r48.1 r51.1 (.v (Go.Value.bool false)))).bind fun r52 =>
  (gsel true r52.2 (some (r18.1, r52.2)) r52.1).bind fun r53 =>
  (gsel true r53.2 (some (r24.1, r53.2)) r52.1).bind fun r54 =>
  (gsel true r54.2 (pv r54.2 (binA Try.prog .eql 26 r53.1 r54.1)) r52.1).bind fun r55 =>
  (pv r55.2 (pickA r52.1 r55.1 (.v (Go.Value.bool false)))).bind fun r56 =>
  (gsel true r56.2 (pv r56.2 (loadA Try.prog 32 r56.2 r31.1)) r56.1).bind fun r57 =>
  (gsel true r57.2 (pv r57.2 (loadA Try.prog 32 r57.2 r37.1)) r56.1).bind fun r58 =>
  (gsel true r58.2 (pv r58.2 (binA Try.prog .eql 32 r57.1 r58.1)) r56.1).bind fun r59 =>
  (pv r59.2 (pickA r56.1 r59.1 (.v (Go.Value.bool false)))).bind fun r60 =>
  (gsel true r60.2 (some (r30.1, r60.2)) r60.1).bind fun r61 =>
  (gsel true r61.2 (some (r12.1, r61.2)) r60.1).bind fun r62 =>
  (gsel true r62.2 (pv r62.2 (binA Try.prog .eql 26 r61.1 r62.1)) r60.1).bind fun r63 =>
  (pv r63.2 (pickA r60.1 r63.1 (.v (Go.Value.bool false)))).bind fun r64 =>
  (gsel true r64.2 (callA E md0 r64.2 13 []) r64.1).bind fun r65 =>
  (pv r65.2 (pickA r64.1 r65.1 (.v (Go.Value.bool false)))).bind fun r66 =>
  some (.ret, ⟨[(4, r66.1), (48, r39.1), (15, r37.1), (14, r30.1), (13, r31.1), (12, r24.1), (11, r25.1), (10, r18.1), (9, r19.1), (8, r12.1), (7, r13.1), (6, r6.1), (5, r7.1), (4, (.v (Go.Value.bool false))), (3, r2.1), (2, r1.1), (0, a0), (1, a1)], r66.2⟩)) ((pv r39.2 (loadA Try.prog 25 r39.2 r7.1)).bind fun r67 =>
  (pv r67.2 (loadA Try.prog 25 r67.2 r13.1)).bind fun r68 =>
  (pv r68.2 (binA Try.prog .eql 25 r67.1 r68.1)).bind fun r69 =>
  (gsel true r69.2 (some (r6.1, r69.2)) r69.1).bind fun r70 =>
  (gsel true r70.2 (some (r12.1, r70.2)) r69.1).bind fun r71 =>
  (gsel true r71.2 (pv r71.2 (binA Try.prog .eql 26 r70.1 r71.1)) r69.1).bind fun r72 =>
  (pv r72.2 (pickA r69.1 r72.1 (.v (Go.Value.bool false)))).bind fun r73 =>
  (gsel true r73.2 (pv r73.2 (loadA Try.prog 23 r73.2 r19.1)) r73.1).bind fun r74 =>
  (gsel true r74.2 (pv r74.2 (loadA Try.prog 23 r74.2 r25.1)) r73.1).bind fun r75 =>
  (gsel true r75.2 (pv r75.2 (binA Try.prog .eql 23 r74.1 r75.1)) r73.1).bind fun r76 =>
  (pv r76.2 (pickA r73.1 r76.1 (.v (Go.Value.bool false)))).bind fun r77 =>
  (gsel true r77.2 (some (r18.1, r77.2)) r77.1).bind fun r78 =>
  (gsel true r78.2 (some (r24.1, r78.2)) r77.1).bind fun r79 =>
  (gsel true r79.2 (pv r79.2 (binA Try.prog .eql 26 r78.1 r79.1)) r77.1).bind fun r80 =>
  (pv r80.2 (pickA r77.1 r80.1 (.v (Go.Value.bool false)))).bind fun r81 =>
  (gsel true r81.2 (pv r81.2 (loadA Try.prog 32 r81.2 r31.1)) r81.1).bind fun r82 =>
  (gsel true r82.2 (pv r82.2 (loadA Try.prog 32 r82.2 r37.1)) r81.1).bind fun r83 =>
  (gsel true r83.2 (pv r83.2 (binA Try.prog .eql 32 r82.1 r83.1)) r81.1).bind fun r84 =>
  (pv r84.2 (pickA r81.1 r84.1 (.v (Go.Value.bool false)))).bind fun r85 =>
  (gsel true r85.2 (some (r30.1, r85.2)) r85.1).bind fun r86 =>
  (gsel true r86.2 (some (r12.1, r86.2)) r85.1).bind fun r87 =>
  (gsel true r87.2 (pv r87.2 (binA Try.prog .eql 26 r86.1 r87.1)) r85.1).bind fun r88 =>
  (pv r88.2 (pickA r85.1 r88.1 (.v (Go.Value.bool false)))).bind fun r89 =>
  (gsel true r89.2 (callA E md0 r89.2 13 []) r89.1).bind fun r90 =>
  (pv r90.2 (pickA r89.1 r90.1 (.v (Go.Value.bool false)))).bind fun r91 =>
  some (.ret, ⟨[(4, r91.1), (48, r39.1), (15, r37.1), (14, r30.1), (13, r31.1), (12, r24.1), (11, r25.1), (10, r18.1), (9, r19.1), (8, r12.1), (7, r13.1), (6, r6.1), (5, r7.1), (4, (.v (Go.Value.bool false))), (3, r2.1), (2, r1.1), (0, a0), (1, a1)], r91.2⟩))
theorem c_l08_SuperPuts_eq : Try.f3.body = some c_l08_SuperPuts := by kernel_rfl
theorem d_l08_SuperPuts : drawsOk Try.prog md0 c_l08_SuperPuts = true := by kernel_rfl
theorem F_l08_SuperPuts_eq (E : FnA) (n n0 : Nat) (a0 a1 : AV) (bx : Bx) : evK Try.prog md0 E 81 kp_l08_SuperPuts n n0 c_l08_SuperPuts ⟨[(0, a0), (1, a1)], bx⟩ (fun s => some (.normal, s)) (fun i s => some (.exit i, s)) = F_l08_SuperPuts E n n0 a0 a1 bx := by kernel_rfl

theorem E_l08_SuperPuts (n : Nat) (a0 a1 : AV) (bx : Bx) : evFn cx0 ext0 (n + 1) 3 [a0, a1] bx = fin Try.prog [.tmp 4] (F_l08_SuperPuts (evFn cx0 ext0 n) n bx.length a0 a1 bx) := by
  rw [evFn_eq2 (cx := cx0) (c := c_l08_SuperPuts) rfl Try.func3 c_l08_SuperPuts_eq (of_decide_eq_true (by kernel_rfl)) d_l08_SuperPuts (of_decide_eq_true (by kernel_rfl))]
  exact congrArg (fin Try.prog [.tmp 4]) (F_l08_SuperPuts_eq (evFn cx0 ext0 n) n bx.length a0 a1 bx)

/-- scupper/scupperlaw08.SuperFinds -/
def kp_l08_SuperFinds : Option (List Nat) := some [0, 2, 3, 4, 5, 6, 7, 8, 9, 10, 11, 12, 13, 14, 15, 66, 70, 93]
noncomputable def c_l08_SuperFinds : Code := Try.f4.body.getD .skip
noncomputable def L_l08_SuperFinds_0 (_E : FnA) (_n _n0 : Nat) (s : S) : Option (Ex × S) :=
  (pv s.bx (lenA Try.prog 46 (get s.env 11))).bind fun r63 =>
  (pv r63.2 (binA Try.prog .lss 3 (get s.env 13) r63.1)).bind fun r64 =>
  condA r64.1 ((pv r64.2 (indexAddrA Try.prog 46 (get (prune kp_l08_SuperFinds s.env) 11) (get (prune kp_l08_SuperFinds s.env) 13))).bind fun r65 =>
  (pv r65.2 (fieldAddrA Try.prog 51 r65.1 0)).bind fun r66 =>
  (pv r66.2 (loadA Try.prog 3 r66.2 r66.1)).bind fun r67 =>
  (pv r67.2 (lookA Try.prog r67.2 43 (get (prune kp_l08_SuperFinds s.env) 9) r67.1 true)).bind fun r68 =>
  (pv r68.2 (tupA r68.1 0)).bind fun r69 =>
  (pv r69.2 (tupA r68.1 1)).bind fun r70 =>
  (allocA Try.prog r70.2 32).bind fun r71 =>
  (stA Try.prog 32 r71.2 r71.1 r69.1).bind fun r72 =>
  (pv r72.2 (unA .not r70.1)).bind fun r73 =>
  (gsel false r73.2 (pv r73.2 (loadA Try.prog 32 r73.2 r71.1)) r73.1).bind fun r74 =>
  (gsel false r74.2 (some ((get (prune kp_l08_SuperFinds (prune kp_l08_SuperFinds s.env)) 11), r74.2)) r73.1).bind fun r75 =>
  (gsel false r75.2 (some ((get (prune kp_l08_SuperFinds (prune kp_l08_SuperFinds s.env)) 13), r75.2)) r73.1).bind fun r76 =>
  (gsel false r76.2 (pv r76.2 (indexAddrA Try.prog 46 r75.1 r76.1)) r73.1).bind fun r77 =>
  (gsel false r77.2 (pv r77.2 (fieldAddrA Try.prog 51 r77.1 1)) r73.1).bind fun r78 =>
  (gsel false r78.2 (pv r78.2 (loadA Try.prog 32 r78.2 r78.1)) r73.1).bind fun r79 =>
  (gsel false r79.2 (pv r79.2 (binA Try.prog .neq 32 r74.1 r79.1)) r73.1).bind fun r80 =>
  (pv r80.2 (pickA r73.1 (.v (Go.Value.bool true)) r80.1)).bind fun r81 =>
  condA r81.1 (some (.ret, ⟨((2, (.v (Go.Value.bool false))) :: (93, r81.1) :: (15, r70.1) :: (14, r71.1) :: (70, r64.1) :: (prune kp_l08_SuperFinds (prune kp_l08_SuperFinds (prune kp_l08_SuperFinds (prune kp_l08_SuperFinds s.env))))), r81.2⟩)) ((pv r81.2 (binA Try.prog .add 3 (get (prune kp_l08_SuperFinds (prune kp_l08_SuperFinds (prune kp_l08_SuperFinds s.env))) 13) (.v (Go.Value.int Go.IntKind.i64 1)))).bind fun r82 =>
  some (.normal, ⟨((13, r82.1) :: (93, r81.1) :: (15, r70.1) :: (14, r71.1) :: (70, r64.1) :: (prune kp_l08_SuperFinds (prune kp_l08_SuperFinds (prune kp_l08_SuperFinds (prune kp_l08_SuperFinds s.env))))), r82.2⟩))) (some (.exit 0, ⟨((70, r64.1) :: (prune kp_l08_SuperFinds s.env)), r64.2⟩))
noncomputable def B_l08_SuperFinds_0 (_E : FnA) (_n _n0 : Nat) (x13 x66 x12 x11 x10 x9 x8 x7 x6 x5 x4 x3 x0 x2 x0_1 : AV) (y : Bx) : Option (Ex × S) :=
  (pv y (lenA Try.prog 46 x11)).bind fun r43 =>
  (pv r43.2 (binA Try.prog .lss 3 x13 r43.1)).bind fun r44 =>
  condA r44.1 ((pv r44.2 (indexAddrA Try.prog 46 x11 x13)).bind fun r45 =>
  (pv r45.2 (fieldAddrA Try.prog 51 r45.1 0)).bind fun r46 =>
  (pv r46.2 (loadA Try.prog 3 r46.2 r46.1)).bind fun r47 =>
  (pv r47.2 (lookA Try.prog r47.2 43 x9 r47.1 true)).bind fun r48 =>
  (pv r48.2 (tupA r48.1 0)).bind fun r49 =>
  (pv r49.2 (tupA r48.1 1)).bind fun r50 =>
  (allocA Try.prog r50.2 32).bind fun r51 =>
  (stA Try.prog 32 r51.2 r51.1 r49.1).bind fun r52 =>
  (pv r52.2 (unA .not r50.1)).bind fun r53 =>
  (gsel false r53.2 (pv r53.2 (loadA Try.prog 32 r53.2 r51.1)) r53.1).bind fun r54 =>
  (gsel false r54.2 (some (x11, r54.2)) r53.1).bind fun r55 =>
  (gsel false r55.2 (some (x13, r55.2)) r53.1).bind fun r56 =>
  (gsel false r56.2 (pv r56.2 (indexAddrA Try.prog 46 r55.1 r56.1)) r53.1).bind fun r57 =>
  (gsel false r57.2 (pv r57.2 (fieldAddrA Try.prog 51 r57.1 1)) r53.1).bind fun r58 =>
  (gsel false r58.2 (pv r58.2 (loadA Try.prog 32 r58.2 r58.1)) r53.1).bind fun r59 =>
  (gsel false r59.2 (pv r59.2 (binA Try.prog .neq 32 r54.1 r59.1)) r53.1).bind fun r60 =>
  (pv r60.2 (pickA r53.1 (.v (Go.Value.bool true)) r60.1)).bind fun r61 =>
  condA r61.1 (some (.ret, ⟨[(2, (.v (Go.Value.bool false))), (93, r61.1), (15, r50.1), (14, r51.1), (70, r44.1), (13, x13), (66, x66), (12, x12), (11, x11), (10, x10), (9, x9), (8, x8), (7, x7), (6, x6), (5, x5), (4, x4), (3, x3), (0, x0), (2, x2), (0, x0_1)], r61.2⟩)) ((pv r61.2 (binA Try.prog .add 3 x13 (.v (Go.Value.int Go.IntKind.i64 1)))).bind fun r62 =>
  some (.normal, ⟨[(13, r62.1), (93, r61.1), (15, r50.1), (14, r51.1), (70, r44.1), (13, x13), (66, x66), (12, x12), (11, x11), (10, x10), (9, x9), (8, x8), (7, x7), (6, x6), (5, x5), (4, x4), (3, x3), (0, x0), (2, x2), (0, x0_1)], r62.2⟩))) (some (.exit 0, ⟨[(70, r44.1), (13, x13), (66, x66), (12, x12), (11, x11), (10, x10), (9, x9), (8, x8), (7, x7), (6, x6), (5, x5), (4, x4), (3, x3), (0, x0), (2, x2), (0, x0_1)], r44.2⟩))
theorem L_l08_SuperFinds_0_lit {E : FnA} {n n0 : Nat} {x13 x66 x12 x11 x10 x9 x8 x7 x6 x5 x4 x3 x0 x2 x0_1 : AV} {y : Bx} {Q : Ex → S → Prop} (h : Ends (B_l08_SuperFinds_0 E n n0 x13 x66 x12 x11 x10 x9 x8 x7 x6 x5 x4 x3 x0 x2 x0_1 y) Q) : Ends (L_l08_SuperFinds_0 E n n0 ⟨[(13, x13), (66, x66), (12, x12), (11, x11), (10, x10), (9, x9), (8, x8), (7, x7), (6, x6), (5, x5), (4, x4), (3, x3), (0, x0), (2, x2), (0, x0_1)], y⟩) Q := by
  rw [show L_l08_SuperFinds_0 E n n0 ⟨[(13, x13), (66, x66), (12, x12), (11, x11), (10, x10), (9, x9), (8, x8), (7, x7), (6, x6), (5, x5), (4, x4), (3, x3), (0, x0), (2, x2), (0, x0_1)], y⟩ = B_l08_SuperFinds_0 E n n0 x13 x66 x12 x11 x10 x9 x8 x7 x6 x5 x4 x3 x0 x2 x0_1 y by kernel_rfl]
  exact h
noncomputable def K_l08_SuperFinds_0 (E : FnA) (_n _n0 : Nat) (t : S) : Option (Ex × S) :=
  (callA E md_l08_SuperFinds t.bx 13 []).bind fun r84 =>
  some (.ret, ⟨((2, r84.1) :: (prune kp_l08_SuperFinds t.env)), r84.2⟩)
noncomputable def X_l08_SuperFinds_0 (E : FnA) (_n _n0 : Nat) (i : Nat) (t : S) : Option (Ex × S) :=
  if i = 0 then (callA E md_l08_SuperFinds t.bx 13 []).bind fun r83 =>
  some (.ret, ⟨((2, r83.1) :: (prune kp_l08_SuperFinds t.env)), r83.2⟩) else some (.exit i, ⟨t.env, t.bx⟩)
noncomputable def X_l08_SuperFinds_0_0 (E : FnA) (_n _n0 : Nat) (x70 x13 x66 x12 x11 x10 x9 x8 x7 x6 x5 x4 x3 x0 x2 x0_1 : AV) (y : Bx) : Option (Ex × S) :=
  (callA E md_l08_SuperFinds y 13 []).bind fun r85 =>
  some (.ret, ⟨[(2, r85.1), (70, x70), (13, x13), (66, x66), (12, x12), (11, x11), (10, x10), (9, x9), (8, x8), (7, x7), (6, x6), (5, x5), (4, x4), (3, x3), (0, x0), (2, x2), (0, x0_1)], r85.2⟩)
theorem X_l08_SuperFinds_0_0_lit {E : FnA} {n n0 : Nat} {x70 x13 x66 x12 x11 x10 x9 x8 x7 x6 x5 x4 x3 x0 x2 x0_1 : AV} {y : Bx} {Q : Ex → S → Prop} (h : Ends (X_l08_SuperFinds_0_0 E n n0 x70 x13 x66 x12 x11 x10 x9 x8 x7 x6 x5 x4 x3 x0 x2 x0_1 y) Q) : Ends (X_l08_SuperFinds_0 E n n0 0 ⟨[(70, x70), (13, x13), (66, x66), (12, x12), (11, x11), (10, x10), (9, x9), (8, x8), (7, x7), (6, x6), (5, x5), (4, x4), (3, x3), (0, x0), (2, x2), (0, x0_1)], y⟩) Q := by
  rw [show X_l08_SuperFinds_0 E n n0 0 ⟨[(70, x70), (13, x13), (66, x66), (12, x12), (11, x11), (10, x10), (9, x9), (8, x8), (7, x7), (6, x6), (5, x5), (4, x4), (3, x3), (0, x0), (2, x2), (0, x0_1)], y⟩ = X_l08_SuperFinds_0_0 E n n0 x70 x13 x66 x12 x11 x10 x9 x8 x7 x6 x5 x4 x3 x0 x2 x0_1 y by kernel_rfl]
  exact h
noncomputable def F_l08_SuperFinds (E : FnA) (n n0 : Nat) (a0 : AV) (bx : Bx) : Option (Ex × S) :=
  (callA E md_l08_SuperFinds bx 14 [a0]).bind fun r1 =>
  (callA E md_l08_SuperFinds r1.2 14 [r1.1]).bind fun r2 =>
  (callA E md_l08_SuperFinds r2.2 15 [r2.1]).bind fun r3 =>
  (pv r3.2 (tupA r3.1 0)).bind fun r4 =>
  (pv r4.2 (tupA r3.1 1)).bind fun r5 =>
  (pv r5.2 (tupA r3.1 2)).bind fun r6 =>
  (allocA Try.prog r6.2 23).bind fun r7 =>
  (stA Try.prog 23 r7.2 r7.1 r4.1).bind fun r8 =>
  (callA E md_l08_SuperFinds r8.2 16 [r1.1]).bind fun r9 =>
  (pv r9.2 (tupA r9.1 0)).bind fun r10 =>
  (pv r10.2 (tupA r9.1 1)).bind fun r11 =>
  (pv r11.2 (tupA r9.1 2)).bind fun r12 =>
  (allocA Try.prog r12.2 23).bind fun r13 =>
  (stA Try.prog 23 r13.2 r13.1 r10.1).bind fun r14 =>
  (callA E md_l08_SuperFinds r14.2 14 [r1.1]).bind fun r15 =>
  (callA E md_l08_SuperFinds r15.2 17 [r15.1]).bind fun r16 =>
  (pv r16.2 (tupA r16.1 0)).bind fun r17 =>
  (pv r17.2 (tupA r16.1 1)).bind fun r18 =>
  (callA E md_l08_SuperFinds r18.2 18 [r1.1]).bind fun r19 =>
  (pv r19.2 (tupA r19.1 0)).bind fun r20 =>
  (pv r20.2 (tupA r19.1 1)).bind fun r21 =>
  (pv r21.2 (loadA Try.prog 23 r21.2 r7.1)).bind fun r22 =>
  (pv r22.2 (loadA Try.prog 23 r22.2 r13.1)).bind fun r23 =>
  (pv r23.2 (binA Try.prog .neq 23 r22.1 r23.1)).bind fun r24 =>
  (gsel false r24.2 (some (r5.1, r24.2)) r24.1).bind fun r25 =>
  (gsel false r25.2 (some (r11.1, r25.2)) r24.1).bind fun r26 =>
  (gsel false r26.2 (pv r26.2 (binA Try.prog .neq 3 r25.1 r26.1)) r24.1).bind fun r27 =>
  (pv r27.2 (pickA r24.1 (.v (Go.Value.bool true)) r27.1)).bind fun r28 =>
  (gsel false r28.2 (some (r6.1, r28.2)) r28.1).bind fun r29 =>
  (gsel false r29.2 (some (r12.1, r29.2)) r28.1).bind fun r30 =>
  (gsel false r30.2 (pv r30.2 (binA Try.prog .neq 26 r29.1 r30.1)) r28.1).bind fun r31 =>
  (pv r31.2 (pickA r28.1 (.v (Go.Value.bool true)) r31.1)).bind fun r32 =>
  (gsel false r32.2 (some (r18.1, r32.2)) r32.1).bind fun r33 =>
  (gsel false r33.2 (some (r21.1, r33.2)) r32.1).bind fun r34 =>
  (gsel false r34.2 (pv r34.2 (binA Try.prog .neq 26 r33.1 r34.1)) r32.1).bind fun r35 =>
  (pv r35.2 (pickA r32.1 (.v (Go.Value.bool true)) r35.1)).bind fun r36 =>
  (gsel false r36.2 (some (r17.1, r36.2)) r36.1).bind fun r37 =>
  (gsel false r37.2 (pv r37.2 (lenM Try.prog r37.2 r37.1)) r36.1).bind fun r38 =>
  (gsel false r38.2 (some (r20.1, r38.2)) r36.1).bind fun r39 =>
  (gsel false r39.2 (pv r39.2 (lenA Try.prog 46 r39.1)) r36.1).bind fun r40 =>
  (gsel false r40.2 (pv r40.2 (binA Try.prog .neq 3 r38.1 r40.1)) r36.1).bind fun r41 =>
  (pv r41.2 (pickA r36.1 (.v (Go.Value.bool true)) r41.1)).bind fun r42 =>
  condA r42.1 (some (.ret, ⟨[(2, (.v (Go.Value.bool false))), (66, r42.1), (12, r21.1), (11, r20.1), (10, r18.1), (9, r17.1), (8, r12.1), (7, r11.1), (6, r13.1), (5, r6.1), (4, r5.1), (3, r7.1), (0, r1.1), (2, (.v (Go.Value.bool false))), (0, a0)], r42.2⟩)) (exitA (iter ⟨[(13, (.v (Go.Value.int Go.IntKind.i64 0))), (66, r42.1), (12, r21.1), (11, r20.1), (10, r18.1), (9, r17.1), (8, r12.1), (7, r11.1), (6, r13.1), (5, r6.1), (4, r5.1), (3, r7.1), (0, r1.1), (2, (.v (Go.Value.bool false))), (0, a0)], r42.2⟩ (L_l08_SuperFinds_0 E n n0) n ⟨[(13, (.v (Go.Value.int Go.IntKind.i64 0))), (66, r42.1), (12, r21.1), (11, r20.1), (10, r18.1), (9, r17.1), (8, r12.1), (7, r11.1), (6, r13.1), (5, r6.1), (4, r5.1), (3, r7.1), (0, r1.1), (2, (.v (Go.Value.bool false))), (0, a0)], r42.2⟩) (K_l08_SuperFinds_0 E n n0) (X_l08_SuperFinds_0 E n n0))
theorem c_l08_SuperFinds_eq : Try.f4.body = some c_l08_SuperFinds := by kernel_rfl
theorem d_l08_SuperFinds : drawsOk Try.prog md_l08_SuperFinds c_l08_SuperFinds = true := by kernel_rfl
theorem F_l08_SuperFinds_eq (E : FnA) (n n0 : Nat) (a0 : AV) (bx : Bx) : evK Try.prog md_l08_SuperFinds E 95 kp_l08_SuperFinds n n0 c_l08_SuperFinds ⟨[(0, a0)], bx⟩ (fun s => some (.normal, s)) (fun i s => some (.exit i, s)) = F_l08_SuperFinds E n n0 a0 bx := by kernel_rfl

theorem E_l08_SuperFinds (n : Nat) (a0 : AV) (bx : Bx) : evFn cx0 ext0 (n + 1) 4 [a0] bx = fin Try.prog [.tmp 2] (F_l08_SuperFinds (evFn cx0 ext0 n) n bx.length a0 bx) := by
  rw [evFn_eq2 (cx := cx0) (c := c_l08_SuperFinds) rfl Try.func4 c_l08_SuperFinds_eq (of_decide_eq_true (by kernel_rfl)) d_l08_SuperFinds (of_decide_eq_true (by kernel_rfl))]
  exact congrArg (fin Try.prog [.tmp 2]) (F_l08_SuperFinds_eq (evFn cx0 ext0 n) n bx.length a0 bx)

/-- scupper/scupperlaw08.SuperMends -/
def kp_l08_SuperMends : Option (List Nat) := some [0, 2, 3, 4, 5, 6, 7, 10, 12, 13, 14, 15, 17, 40, 42, 57, 66, 86]
noncomputable def c_l08_SuperMends : Code := Try.f5.body.getD .skip
noncomputable def L_l08_SuperMends_0 (E : FnA) (_n _n0 : Nat) (s : S) : Option (Ex × S) :=
  (pv s.bx (binA Try.prog .lss 3 (get s.env 12) (.v (Go.Value.int Go.IntKind.i64 2)))).bind fun r68 =>
  condA r68.1 ((pv r68.2 (lookA Try.prog r68.2 43 (get (prune kp_l08_SuperMends s.env) 3) (get (prune kp_l08_SuperMends s.env) 12) true)).bind fun r69 =>
  (pv r69.2 (tupA r69.1 0)).bind fun r70 =>
  (pv r70.2 (tupA r69.1 1)).bind fun r71 =>
  (allocA Try.prog r71.2 32).bind fun r72 =>
  (stA Try.prog 32 r72.2 r72.1 r70.1).bind fun r73 =>
  condA r71.1 ((pv r73.2 (loadA Try.prog 32 r73.2 r72.1)).bind fun r74 =>
  (pv r74.2 (indexAddrA Try.prog 39 (get (prune kp_l08_SuperMends (prune kp_l08_SuperMends (prune kp_l08_SuperMends s.env))) 0) (get (prune kp_l08_SuperMends (prune kp_l08_SuperMends (prune kp_l08_SuperMends s.env))) 12))).bind fun r75 =>
  (stA Try.prog 32 r75.2 r75.1 r74.1).bind fun r76 =>
  (pv r76.2 (indexAddrA Try.prog 39 (get (prune kp_l08_SuperMends (prune kp_l08_SuperMends (prune kp_l08_SuperMends (prune kp_l08_SuperMends s.env)))) 0) (get (prune kp_l08_SuperMends (prune kp_l08_SuperMends (prune kp_l08_SuperMends (prune kp_l08_SuperMends s.env)))) 12))).bind fun r77 =>
  (pv r77.2 (loadA Try.prog 32 r77.2 r77.1)).bind fun r78 =>
  (callA E md_l08_SuperMends r78.2 19 [(.v (Go.Value.int Go.IntKind.i64 1)), r78.1]).bind fun r79 =>
  (pv r79.2 (tupA r79.1 0)).bind fun r80 =>
  (pv r80.2 (tupA r79.1 1)).bind fun r81 =>
  (pv r81.2 (tupA r79.1 2)).bind fun r82 =>
  (allocA Try.prog r82.2 25).bind fun r83 =>
  (stA Try.prog 25 r83.2 r83.1 r80.1).bind fun r84 =>
  (pv r84.2 (binA Try.prog .neq 26 r82.1 (.v (Go.Value.int Go.IntKind.i64 0)))).bind fun r85 =>
  (gsel false r85.2 (pv r85.2 (loadA Try.prog 25 r85.2 r83.1)) r85.1).bind fun r86 =>
  (gsel false r86.2 (pv r86.2 (loadA Try.prog 25 r86.2 (get (prune kp_l08_SuperMends (prune kp_l08_SuperMends (prune kp_l08_SuperMends (prune kp_l08_SuperMends (prune kp_l08_SuperMends s.env))))) 10))) r85.1).bind fun r87 =>
  (gsel false r87.2 (pv r87.2 (binA Try.prog .neq 25 r86.1 r87.1)) r85.1).bind fun r88 =>
  (pv r88.2 (pickA r85.1 (.v (Go.Value.bool true)) r88.1)).bind fun r89 =>
  condA r89.1 (some (.ret, ⟨((2, (.v (Go.Value.bool false))) :: (86, r89.1) :: (17, r82.1) :: (15, r83.1) :: (66, r71.1) :: (14, r71.1) :: (13, r72.1) :: (57, r68.1) :: (prune kp_l08_SuperMends (prune kp_l08_SuperMends (prune kp_l08_SuperMends (prune kp_l08_SuperMends (prune kp_l08_SuperMends (prune kp_l08_SuperMends (prune kp_l08_SuperMends s.env)))))))), r89.2⟩)) ((pv r89.2 (binA Try.prog .add 3 (get (prune kp_l08_SuperMends (prune kp_l08_SuperMends (prune kp_l08_SuperMends (prune kp_l08_SuperMends (prune kp_l08_SuperMends (prune kp_l08_SuperMends s.env)))))) 12) (.v (Go.Value.int Go.IntKind.i64 1)))).bind fun r90 =>
  some (.normal, ⟨((12, r90.1) :: (86, r89.1) :: (17, r82.1) :: (15, r83.1) :: (66, r71.1) :: (14, r71.1) :: (13, r72.1) :: (57, r68.1) :: (prune kp_l08_SuperMends (prune kp_l08_SuperMends (prune kp_l08_SuperMends (prune kp_l08_SuperMends (prune kp_l08_SuperMends (prune kp_l08_SuperMends (prune kp_l08_SuperMends s.env)))))))), r90.2⟩))) ((pv r73.2 (indexAddrA Try.prog 39 (get (prune kp_l08_SuperMends (prune kp_l08_SuperMends (prune kp_l08_SuperMends s.env))) 0) (get (prune kp_l08_SuperMends (prune kp_l08_SuperMends (prune kp_l08_SuperMends s.env))) 12))).bind fun r91 =>
  (pv r91.2 (loadA Try.prog 32 r91.2 r91.1)).bind fun r92 =>
  (callA E md_l08_SuperMends r92.2 19 [(.v (Go.Value.int Go.IntKind.i64 1)), r92.1]).bind fun r93 =>
  (pv r93.2 (tupA r93.1 0)).bind fun r94 =>
  (pv r94.2 (tupA r93.1 1)).bind fun r95 =>
  (pv r95.2 (tupA r93.1 2)).bind fun r96 =>
  (allocA Try.prog r96.2 25).bind fun r97 =>
  (stA Try.prog 25 r97.2 r97.1 r94.1).bind fun r98 =>
  (pv r98.2 (binA Try.prog .neq 26 r96.1 (.v (Go.Value.int Go.IntKind.i64 0)))).bind fun r99 =>
  (gsel false r99.2 (pv r99.2 (loadA Try.prog 25 r99.2 r97.1)) r99.1).bind fun r100 =>
  (gsel false r100.2 (pv r100.2 (loadA Try.prog 25 r100.2 (get (prune kp_l08_SuperMends (prune kp_l08_SuperMends (prune kp_l08_SuperMends (prune kp_l08_SuperMends s.env)))) 10))) r99.1).bind fun r101 =>
  (gsel false r101.2 (pv r101.2 (binA Try.prog .neq 25 r100.1 r101.1)) r99.1).bind fun r102 =>
  (pv r102.2 (pickA r99.1 (.v (Go.Value.bool true)) r102.1)).bind fun r103 =>
  condA r103.1 (some (.ret, ⟨((2, (.v (Go.Value.bool false))) :: (86, r103.1) :: (17, r96.1) :: (15, r97.1) :: (66, r71.1) :: (14, r71.1) :: (13, r72.1) :: (57, r68.1) :: (prune kp_l08_SuperMends (prune kp_l08_SuperMends (prune kp_l08_SuperMends (prune kp_l08_SuperMends (prune kp_l08_SuperMends (prune kp_l08_SuperMends s.env))))))), r103.2⟩)) ((pv r103.2 (binA Try.prog .add 3 (get (prune kp_l08_SuperMends (prune kp_l08_SuperMends (prune kp_l08_SuperMends (prune kp_l08_SuperMends (prune kp_l08_SuperMends s.env))))) 12) (.v (Go.Value.int Go.IntKind.i64 1)))).bind fun r104 =>
  some (.normal, ⟨((12, r104.1) :: (86, r103.1) :: (17, r96.1) :: (15, r97.1) :: (66, r71.1) :: (14, r71.1) :: (13, r72.1) :: (57, r68.1) :: (prune kp_l08_SuperMends (prune kp_l08_SuperMends (prune kp_l08_SuperMends (prune kp_l08_SuperMends (prune kp_l08_SuperMends (prune kp_l08_SuperMends s.env))))))), r104.2⟩)))) (some (.exit 0, ⟨((57, r68.1) :: (prune kp_l08_SuperMends s.env)), r68.2⟩))
noncomputable def B_l08_SuperMends_0 (E : FnA) (_n _n0 : Nat) (x12 x10 x7 x42 x40 x6 x5 x4 x3 x0 x2 x0_1 : AV) (y : Bx) : Option (Ex × S) :=
  (pv y (binA Try.prog .lss 3 x12 (.v (Go.Value.int Go.IntKind.i64 2)))).bind fun r31 =>
  condA r31.1 ((pv r31.2 (lookA Try.prog r31.2 43 x3 x12 true)).bind fun r32 =>
  (pv r32.2 (tupA r32.1 0)).bind fun r33 =>
  (pv r33.2 (tupA r32.1 1)).bind fun r34 =>
  (allocA Try.prog r34.2 32).bind fun r35 =>
  (stA Try.prog 32 r35.2 r35.1 r33.1).bind fun r36 =>
  condA r34.1 ((pv r36.2 (loadA Try.prog 32 r36.2 r35.1)).bind fun r37 =>
  (pv r37.2 (indexAddrA Try.prog 39 x0 x12)).bind fun r38 =>
  (stA Try.prog 32 r38.2 r38.1 r37.1).bind fun r39 =>
  (pv r39.2 (indexAddrA Try.prog 39 x0 x12)).bind fun r40 =>
  (pv r40.2 (loadA Try.prog 32 r40.2 r40.1)).bind fun r41 =>
  (callA E md_l08_SuperMends r41.2 19 [(.v (Go.Value.int Go.IntKind.i64 1)), r41.1]).bind fun r42 =>
  (pv r42.2 (tupA r42.1 0)).bind fun r43 =>
  (pv r43.2 (tupA r42.1 1)).bind fun r44 =>
  (pv r44.2 (tupA r42.1 2)).bind fun r45 =>
  (allocA Try.prog r45.2 25).bind fun r46 =>
  (stA Try.prog 25 r46.2 r46.1 r43.1).bind fun r47 =>
  (pv r47.2 (binA Try.prog .neq 26 r45.1 (.v (Go.Value.int Go.IntKind.i64 0)))).bind fun r48 =>
  (gsel false r48.2 (pv r48.2 (loadA Try.prog 25 r48.2 r46.1)) r48.1).bind fun r49 =>
  (gsel false r49.2 (pv r49.2 (loadA Try.prog 25 r49.2 x10)) r48.1).bind fun r50 =>
  (gsel false r50.2 (pv r50.2 (binA Try.prog .neq 25 r49.1 r50.1)) r48.1).bind fun r51 =>
  (pv r51.2 (pickA r48.1 (.v (Go.Value.bool true)) r51.1)).bind fun r52 =>
  condA r52.1 (some (.ret, ⟨[(2, (.v (Go.Value.bool false))), (86, r52.1), (17, r45.1), (15, r46.1), (66, r34.1), (14, r34.1), (13, r35.1), (57, r31.1), (12, x12), (10, x10), (7, x7), (42, x42), (40, x40), (6, x6), (5, x5), (4, x4), (3, x3), (0, x0), (2, x2), (0, x0_1)], r52.2⟩)) ((pv r52.2 (binA Try.prog .add 3 x12 (.v (Go.Value.int Go.IntKind.i64 1)))).bind fun r53 =>
  some (.normal, ⟨[(12, r53.1), (86, r52.1), (17, r45.1), (15, r46.1), (66, r34.1), (14, r34.1), (13, r35.1), (57, r31.1), (12, x12), (10, x10), (7, x7), (42, x42), (40, x40), (6, x6), (5, x5), (4, x4), (3, x3), (0, x0), (2, x2), (0, x0_1)], r53.2⟩))) ((pv r36.2 (indexAddrA Try.prog 39 x0 x12)).bind fun r54 =>
  (pv r54.2 (loadA Try.prog 32 r54.2 r54.1)).bind fun r55 =>
  (callA E md_l08_SuperMends r55.2 19 [(.v (Go.Value.int Go.IntKind.i64 1)), r55.1]).bind fun r56 =>
  (pv r56.2 (tupA r56.1 0)).bind fun r57 =>
  (pv r57.2 (tupA r56.1 1)).bind fun r58 =>
  (pv r58.2 (tupA r56.1 2)).bind fun r59 =>
  (allocA Try.prog r59.2 25).bind fun r60 =>
  (stA Try.prog 25 r60.2 r60.1 r57.1).bind fun r61 =>
  (pv r61.2 (binA Try.prog .neq 26 r59.1 (.v (Go.Value.int Go.IntKind.i64 0)))).bind fun r62 =>
  (gsel false r62.2 (pv r62.2 (loadA Try.prog 25 r62.2 r60.1)) r62.1).bind fun r63 =>
  (gsel false r63.2 (pv r63.2 (loadA Try.prog 25 r63.2 x10)) r62.1).bind fun r64 =>
  (gsel false r64.2 (pv r64.2 (binA Try.prog .neq 25 r63.1 r64.1)) r62.1).bind fun r65 =>
  (pv r65.2 (pickA r62.1 (.v (Go.Value.bool true)) r65.1)).bind fun r66 =>
  condA r66.1 (some (.ret, ⟨[(2, (.v (Go.Value.bool false))), (86, r66.1), (17, r59.1), (15, r60.1), (66, r34.1), (14, r34.1), (13, r35.1), (57, r31.1), (12, x12), (10, x10), (7, x7), (42, x42), (40, x40), (6, x6), (5, x5), (4, x4), (3, x3), (0, x0), (2, x2), (0, x0_1)], r66.2⟩)) ((pv r66.2 (binA Try.prog .add 3 x12 (.v (Go.Value.int Go.IntKind.i64 1)))).bind fun r67 =>
  some (.normal, ⟨[(12, r67.1), (86, r66.1), (17, r59.1), (15, r60.1), (66, r34.1), (14, r34.1), (13, r35.1), (57, r31.1), (12, x12), (10, x10), (7, x7), (42, x42), (40, x40), (6, x6), (5, x5), (4, x4), (3, x3), (0, x0), (2, x2), (0, x0_1)], r67.2⟩)))) (some (.exit 0, ⟨[(57, r31.1), (12, x12), (10, x10), (7, x7), (42, x42), (40, x40), (6, x6), (5, x5), (4, x4), (3, x3), (0, x0), (2, x2), (0, x0_1)], r31.2⟩))
theorem L_l08_SuperMends_0_lit {E : FnA} {n n0 : Nat} {x12 x10 x7 x42 x40 x6 x5 x4 x3 x0 x2 x0_1 : AV} {y : Bx} {Q : Ex → S → Prop} (h : Ends (B_l08_SuperMends_0 E n n0 x12 x10 x7 x42 x40 x6 x5 x4 x3 x0 x2 x0_1 y) Q) : Ends (L_l08_SuperMends_0 E n n0 ⟨[(12, x12), (10, x10), (7, x7), (42, x42), (40, x40), (6, x6), (5, x5), (4, x4), (3, x3), (0, x0), (2, x2), (0, x0_1)], y⟩) Q := by
  rw [show L_l08_SuperMends_0 E n n0 ⟨[(12, x12), (10, x10), (7, x7), (42, x42), (40, x40), (6, x6), (5, x5), (4, x4), (3, x3), (0, x0), (2, x2), (0, x0_1)], y⟩ = B_l08_SuperMends_0 E n n0 x12 x10 x7 x42 x40 x6 x5 x4 x3 x0 x2 x0_1 y by kernel_rfl]
  exact h
noncomputable def K_l08_SuperMends_0 (E : FnA) (_n _n0 : Nat) (t : S) : Option (Ex × S) :=
  (callA E md_l08_SuperMends t.bx 13 []).bind fun r106 =>
  some (.ret, ⟨((2, r106.1) :: (prune kp_l08_SuperMends t.env)), r106.2⟩)
noncomputable def X_l08_SuperMends_0 (E : FnA) (_n _n0 : Nat) (i : Nat) (t : S) : Option (Ex × S) :=
  if i = 0 then (callA E md_l08_SuperMends t.bx 13 []).bind fun r105 =>
  some (.ret, ⟨((2, r105.1) :: (prune kp_l08_SuperMends t.env)), r105.2⟩) else some (.exit i, ⟨t.env, t.bx⟩)
noncomputable def X_l08_SuperMends_0_0 (E : FnA) (_n _n0 : Nat) (x57 x12 x10 x7 x42 x40 x6 x5 x4 x3 x0 x2 x0_1 : AV) (y : Bx) : Option (Ex × S) :=
  (callA E md_l08_SuperMends y 13 []).bind fun r107 =>
  some (.ret, ⟨[(2, r107.1), (57, x57), (12, x12), (10, x10), (7, x7), (42, x42), (40, x40), (6, x6), (5, x5), (4, x4), (3, x3), (0, x0), (2, x2), (0, x0_1)], r107.2⟩)
theorem X_l08_SuperMends_0_0_lit {E : FnA} {n n0 : Nat} {x57 x12 x10 x7 x42 x40 x6 x5 x4 x3 x0 x2 x0_1 : AV} {y : Bx} {Q : Ex → S → Prop} (h : Ends (X_l08_SuperMends_0_0 E n n0 x57 x12 x10 x7 x42 x40 x6 x5 x4 x3 x0 x2 x0_1 y) Q) : Ends (X_l08_SuperMends_0 E n n0 0 ⟨[(57, x57), (12, x12), (10, x10), (7, x7), (42, x42), (40, x40), (6, x6), (5, x5), (4, x4), (3, x3), (0, x0), (2, x2), (0, x0_1)], y⟩) Q := by
  rw [show X_l08_SuperMends_0 E n n0 0 ⟨[(57, x57), (12, x12), (10, x10), (7, x7), (42, x42), (40, x40), (6, x6), (5, x5), (4, x4), (3, x3), (0, x0), (2, x2), (0, x0_1)], y⟩ = X_l08_SuperMends_0_0 E n n0 x57 x12 x10 x7 x42 x40 x6 x5 x4 x3 x0 x2 x0_1 y by kernel_rfl]
  exact h
noncomputable def F_l08_SuperMends (E : FnA) (n n0 : Nat) (a0 : AV) (bx : Bx) : Option (Ex × S) :=
  (callA E md_l08_SuperMends bx 14 [a0]).bind fun r1 =>
  (callA E md_l08_SuperMends r1.2 14 [r1.1]).bind fun r2 =>
  (callA E md_l08_SuperMends r2.2 17 [r2.1]).bind fun r3 =>
  (pv r3.2 (tupA r3.1 0)).bind fun r4 =>
  (pv r4.2 (tupA r3.1 1)).bind fun r5 =>
  (callA E md_l08_SuperMends r5.2 18 [r1.1]).bind fun r6 =>
  (pv r6.2 (tupA r6.1 0)).bind fun r7 =>
  (pv r7.2 (tupA r6.1 1)).bind fun r8 =>
  (pv r8.2 (binA Try.prog .neq 26 r5.1 r8.1)).bind fun r9 =>
  (gsel false r9.2 (some (r4.1, r9.2)) r9.1).bind fun r10 =>
  (gsel false r10.2 (pv r10.2 (lenM Try.prog r10.2 r10.1)) r9.1).bind fun r11 =>
  (gsel false r11.2 (some (r7.1, r11.2)) r9.1).bind fun r12 =>
  (gsel false r12.2 (pv r12.2 (lenA Try.prog 46 r12.1)) r9.1).bind fun r13 =>
  (gsel false r13.2 (pv r13.2 (binA Try.prog .neq 3 r11.1 r13.1)) r9.1).bind fun r14 =>
  (pv r14.2 (pickA r9.1 (.v (Go.Value.bool true)) r14.1)).bind fun r15 =>
  condA r15.1 (some (.ret, ⟨[(2, (.v (Go.Value.bool false))), (40, r15.1), (6, r8.1), (5, r7.1), (4, r5.1), (3, r4.1), (0, r1.1), (2, (.v (Go.Value.bool false))), (0, a0)], r15.2⟩)) ((pv r15.2 (binA Try.prog .neq 26 r5.1 (.v (Go.Value.int Go.IntKind.i64 0)))).bind fun r16 =>
  condA r16.1 ((callA E md_l08_SuperMends r16.2 13 []).bind fun r17 =>
  some (.ret, ⟨[(2, r17.1), (42, r16.1), (40, r15.1), (6, r8.1), (5, r7.1), (4, r5.1), (3, r4.1), (0, r1.1), (2, (.v (Go.Value.bool false))), (0, a0)], r17.2⟩)) ((callA E md_l08_SuperMends r16.2 14 [r1.1]).bind fun r18 =>
  (callA E md_l08_SuperMends r18.2 15 [r18.1]).bind fun r19 =>
  (pv r19.2 (tupA r19.1 0)).bind fun r20 =>
  (pv r20.2 (tupA r19.1 1)).bind fun r21 =>
  (pv r21.2 (tupA r19.1 2)).bind fun r22 =>
  (allocA Try.prog r22.2 23).bind fun r23 =>
  (stA Try.prog 23 r23.2 r23.1 r20.1).bind fun r24 =>
  (pv r24.2 (loadA Try.prog 23 r24.2 r23.1)).bind fun r25 =>
  (callA E md_l08_SuperMends r25.2 8 [r25.1]).bind fun r26 =>
  (pv r26.2 (tupA r26.1 0)).bind fun r27 =>
  (pv r27.2 (tupA r26.1 1)).bind fun r28 =>
  (allocA Try.prog r28.2 25).bind fun r29 =>
  (stA Try.prog 25 r29.2 r29.1 r27.1).bind fun r30 =>
  exitA (iter ⟨[(12, (.v (Go.Value.int Go.IntKind.i64 0))), (10, r29.1), (7, r23.1), (42, r16.1), (40, r15.1), (6, r8.1), (5, r7.1), (4, r5.1), (3, r4.1), (0, r1.1), (2, (.v (Go.Value.bool false))), (0, a0)], r30.2⟩ (L_l08_SuperMends_0 E n n0) n ⟨[(12, (.v (Go.Value.int Go.IntKind.i64 0))), (10, r29.1), (7, r23.1), (42, r16.1), (40, r15.1), (6, r8.1), (5, r7.1), (4, r5.1), (3, r4.1), (0, r1.1), (2, (.v (Go.Value.bool false))), (0, a0)], r30.2⟩) (K_l08_SuperMends_0 E n n0) (X_l08_SuperMends_0 E n n0)))
theorem c_l08_SuperMends_eq : Try.f5.body = some c_l08_SuperMends := by kernel_rfl
theorem d_l08_SuperMends : drawsOk Try.prog md_l08_SuperMends c_l08_SuperMends = true := by kernel_rfl
theorem F_l08_SuperMends_eq (E : FnA) (n n0 : Nat) (a0 : AV) (bx : Bx) : evK Try.prog md_l08_SuperMends E 88 kp_l08_SuperMends n n0 c_l08_SuperMends ⟨[(0, a0)], bx⟩ (fun s => some (.normal, s)) (fun i s => some (.exit i, s)) = F_l08_SuperMends E n n0 a0 bx := by kernel_rfl

theorem E_l08_SuperMends (n : Nat) (a0 : AV) (bx : Bx) : evFn cx0 ext0 (n + 1) 5 [a0] bx = fin Try.prog [.tmp 2] (F_l08_SuperMends (evFn cx0 ext0 n) n bx.length a0 bx) := by
  rw [evFn_eq2 (cx := cx0) (c := c_l08_SuperMends) rfl Try.func5 c_l08_SuperMends_eq (of_decide_eq_true (by kernel_rfl)) d_l08_SuperMends (of_decide_eq_true (by kernel_rfl))]
  exact congrArg (fin Try.prog [.tmp 2]) (F_l08_SuperMends_eq (evFn cx0 ext0 n) n bx.length a0 bx)

/-- scupper/scupperlaw08.SuperTwice -/
def kp_l08_SuperTwice : Option (List Nat) := some [0, 1, 2, 3, 5, 6, 7, 8, 9, 11, 14, 15, 16, 17, 18, 19, 20, 21, 23, 29, 56, 73, 88, 97]
noncomputable def c_l08_SuperTwice : Code := Try.f6.body.getD .skip
noncomputable def L_l08_SuperTwice_0 (_E : FnA) (_n _n0 : Nat) (s : S) : Option (Ex × S) :=
  (pv s.bx (binA Try.prog .lss 3 (get s.env 17) (.v (Go.Value.int Go.IntKind.i64 2)))).bind fun r66 =>
  condA r66.1 ((pv r66.2 (lookA Try.prog r66.2 43 (get (prune kp_l08_SuperTwice s.env) 15) (get (prune kp_l08_SuperTwice s.env) 17) true)).bind fun r67 =>
  (pv r67.2 (tupA r67.1 0)).bind fun r68 =>
  (pv r68.2 (tupA r67.1 1)).bind fun r69 =>
  (allocA Try.prog r69.2 32).bind fun r70 =>
  (stA Try.prog 32 r70.2 r70.1 r68.1).bind fun r71 =>
  condA r69.1 ((pv r71.2 (loadA Try.prog 32 r71.2 r70.1)).bind fun r72 =>
  (pv r72.2 (indexAddrA Try.prog 39 (get (prune kp_l08_SuperTwice (prune kp_l08_SuperTwice (prune kp_l08_SuperTwice s.env))) 7) (get (prune kp_l08_SuperTwice (prune kp_l08_SuperTwice (prune kp_l08_SuperTwice s.env))) 17))).bind fun r73 =>
  (stA Try.prog 32 r73.2 r73.1 r72.1).bind fun r74 =>
  (pv r74.2 (binA Try.prog .add 3 (get (prune kp_l08_SuperTwice (prune kp_l08_SuperTwice (prune kp_l08_SuperTwice (prune kp_l08_SuperTwice s.env)))) 17) (.v (Go.Value.int Go.IntKind.i64 1)))).bind fun r75 =>
  some (.normal, ⟨((17, r75.1) :: (97, r69.1) :: (19, r69.1) :: (18, r70.1) :: (88, r66.1) :: (prune kp_l08_SuperTwice (prune kp_l08_SuperTwice (prune kp_l08_SuperTwice (prune kp_l08_SuperTwice (prune kp_l08_SuperTwice s.env)))))), r75.2⟩)) ((pv r71.2 (binA Try.prog .add 3 (get (prune kp_l08_SuperTwice (prune kp_l08_SuperTwice (prune kp_l08_SuperTwice s.env))) 17) (.v (Go.Value.int Go.IntKind.i64 1)))).bind fun r76 =>
  some (.normal, ⟨((17, r76.1) :: (97, r69.1) :: (19, r69.1) :: (18, r70.1) :: (88, r66.1) :: (prune kp_l08_SuperTwice (prune kp_l08_SuperTwice (prune kp_l08_SuperTwice (prune kp_l08_SuperTwice s.env))))), r76.2⟩))) (some (.exit 0, ⟨((88, r66.1) :: (prune kp_l08_SuperTwice s.env)), r66.2⟩))
noncomputable def B_l08_SuperTwice_0 (_E : FnA) (_n _n0 : Nat) (x17 x16 x15 x73 x14 x56 x11 x9 x8 x29 x7 x23 x6 x5 x3 x0 x1 x2 : AV) (y : Bx) : Option (Ex × S) :=
  (pv y (binA Try.prog .lss 3 x17 (.v (Go.Value.int Go.IntKind.i64 2)))).bind fun r55 =>
  condA r55.1 ((pv r55.2 (lookA Try.prog r55.2 43 x15 x17 true)).bind fun r56 =>
  (pv r56.2 (tupA r56.1 0)).bind fun r57 =>
  (pv r57.2 (tupA r56.1 1)).bind fun r58 =>
  (allocA Try.prog r58.2 32).bind fun r59 =>
  (stA Try.prog 32 r59.2 r59.1 r57.1).bind fun r60 =>
  condA r58.1 ((pv r60.2 (loadA Try.prog 32 r60.2 r59.1)).bind fun r61 =>
  (pv r61.2 (indexAddrA Try.prog 39 x7 x17)).bind fun r62 =>
  (stA Try.prog 32 r62.2 r62.1 r61.1).bind fun r63 =>
  (pv r63.2 (binA Try.prog .add 3 x17 (.v (Go.Value.int Go.IntKind.i64 1)))).bind fun r64 =>
  some (.normal, ⟨[(17, r64.1), (97, r58.1), (19, r58.1), (18, r59.1), (88, r55.1), (17, x17), (16, x16), (15, x15), (73, x73), (14, x14), (56, x56), (11, x11), (9, x9), (8, x8), (29, x29), (7, x7), (23, x23), (6, x6), (5, x5), (3, x3), (0, x0), (1, x1), (2, x2)], r64.2⟩)) ((pv r60.2 (binA Try.prog .add 3 x17 (.v (Go.Value.int Go.IntKind.i64 1)))).bind fun r65 =>
  some (.normal, ⟨[(17, r65.1), (97, r58.1), (19, r58.1), (18, r59.1), (88, r55.1), (17, x17), (16, x16), (15, x15), (73, x73), (14, x14), (56, x56), (11, x11), (9, x9), (8, x8), (29, x29), (7, x7), (23, x23), (6, x6), (5, x5), (3, x3), (0, x0), (1, x1), (2, x2)], r65.2⟩))) (some (.exit 0, ⟨[(88, r55.1), (17, x17), (16, x16), (15, x15), (73, x73), (14, x14), (56, x56), (11, x11), (9, x9), (8, x8), (29, x29), (7, x7), (23, x23), (6, x6), (5, x5), (3, x3), (0, x0), (1, x1), (2, x2)], r55.2⟩))
theorem L_l08_SuperTwice_0_lit {E : FnA} {n n0 : Nat} {x17 x16 x15 x73 x14 x56 x11 x9 x8 x29 x7 x23 x6 x5 x3 x0 x1 x2 : AV} {y : Bx} {Q : Ex → S → Prop} (h : Ends (B_l08_SuperTwice_0 E n n0 x17 x16 x15 x73 x14 x56 x11 x9 x8 x29 x7 x23 x6 x5 x3 x0 x1 x2 y) Q) : Ends (L_l08_SuperTwice_0 E n n0 ⟨[(17, x17), (16, x16), (15, x15), (73, x73), (14, x14), (56, x56), (11, x11), (9, x9), (8, x8), (29, x29), (7, x7), (23, x23), (6, x6), (5, x5), (3, x3), (0, x0), (1, x1), (2, x2)], y⟩) Q := by
  rw [show L_l08_SuperTwice_0 E n n0 ⟨[(17, x17), (16, x16), (15, x15), (73, x73), (14, x14), (56, x56), (11, x11), (9, x9), (8, x8), (29, x29), (7, x7), (23, x23), (6, x6), (5, x5), (3, x3), (0, x0), (1, x1), (2, x2)], y⟩ = B_l08_SuperTwice_0 E n n0 x17 x16 x15 x73 x14 x56 x11 x9 x8 x29 x7 x23 x6 x5 x3 x0 x1 x2 y by kernel_rfl]
  exact h
noncomputable def K_l08_SuperTwice_0 (E : FnA) (_n _n0 : Nat) (t : S) : Option (Ex × S) :=
  (callA E md_l08_SuperTwice t.bx 17 [(get t.env 7)]).bind fun r88 =>
  (pv r88.2 (tupA r88.1 0)).bind fun r89 =>
  (pv r89.2 (tupA r88.1 1)).bind fun r90 =>
  (pv r90.2 (binA Try.prog .eql 26 (get (prune kp_l08_SuperTwice t.env) 16) (.v (Go.Value.int Go.IntKind.i64 0)))).bind fun r91 =>
  (gsel true r91.2 (some (r90.1, r91.2)) r91.1).bind fun r92 =>
  (gsel true r92.2 (pv r92.2 (binA Try.prog .eql 26 r92.1 (.v (Go.Value.int Go.IntKind.i64 0)))) r91.1).bind fun r93 =>
  (pv r93.2 (pickA r91.1 r93.1 (.v (Go.Value.bool false)))).bind fun r94 =>
  (gsel true r94.2 (some (r89.1, r94.2)) r94.1).bind fun r95 =>
  (gsel true r95.2 (pv r95.2 (lenM Try.prog r95.2 r95.1)) r94.1).bind fun r96 =>
  (gsel true r96.2 (pv r96.2 (binA Try.prog .eql 3 r96.1 (.v (Go.Value.int Go.IntKind.i64 0)))) r94.1).bind fun r97 =>
  (pv r97.2 (pickA r94.1 r97.1 (.v (Go.Value.bool false)))).bind fun r98 =>
  some (.ret, ⟨((6, r98.1) :: (21, r90.1) :: (20, r89.1) :: (prune kp_l08_SuperTwice (prune kp_l08_SuperTwice t.env))), r98.2⟩)
noncomputable def X_l08_SuperTwice_0 (E : FnA) (_n _n0 : Nat) (i : Nat) (t : S) : Option (Ex × S) :=
  if i = 0 then (callA E md_l08_SuperTwice t.bx 17 [(get t.env 7)]).bind fun r77 =>
  (pv r77.2 (tupA r77.1 0)).bind fun r78 =>
  (pv r78.2 (tupA r77.1 1)).bind fun r79 =>
  (pv r79.2 (binA Try.prog .eql 26 (get (prune kp_l08_SuperTwice t.env) 16) (.v (Go.Value.int Go.IntKind.i64 0)))).bind fun r80 =>
  (gsel true r80.2 (some (r79.1, r80.2)) r80.1).bind fun r81 =>
  (gsel true r81.2 (pv r81.2 (binA Try.prog .eql 26 r81.1 (.v (Go.Value.int Go.IntKind.i64 0)))) r80.1).bind fun r82 =>
  (pv r82.2 (pickA r80.1 r82.1 (.v (Go.Value.bool false)))).bind fun r83 =>
  (gsel true r83.2 (some (r78.1, r83.2)) r83.1).bind fun r84 =>
  (gsel true r84.2 (pv r84.2 (lenM Try.prog r84.2 r84.1)) r83.1).bind fun r85 =>
  (gsel true r85.2 (pv r85.2 (binA Try.prog .eql 3 r85.1 (.v (Go.Value.int Go.IntKind.i64 0)))) r83.1).bind fun r86 =>
  (pv r86.2 (pickA r83.1 r86.1 (.v (Go.Value.bool false)))).bind fun r87 =>
  some (.ret, ⟨((6, r87.1) :: (21, r79.1) :: (20, r78.1) :: (prune kp_l08_SuperTwice (prune kp_l08_SuperTwice t.env))), r87.2⟩) else some (.exit i, ⟨t.env, t.bx⟩)
noncomputable def X_l08_SuperTwice_0_0 (E : FnA) (_n _n0 : Nat) (x88 x17 x16 x15 x73 x14 x56 x11 x9 x8 x29 x7 x23 x6 x5 x3 x0 x1 x2 : AV) (y : Bx) : Option (Ex × S) :=
  (callA E md_l08_SuperTwice y 17 [x7]).bind fun r99 =>
  (pv r99.2 (tupA r99.1 0)).bind fun r100 =>
  (pv r100.2 (tupA r99.1 1)).bind fun r101 =>
  (pv r101.2 (binA Try.prog .eql 26 x16 (.v (Go.Value.int Go.IntKind.i64 0)))).bind fun r102 =>
  (gsel true r102.2 (some (r101.1, r102.2)) r102.1).bind fun r103 =>
  (gsel true r103.2 (pv r103.2 (binA Try.prog .eql 26 r103.1 (.v (Go.Value.int Go.IntKind.i64 0)))) r102.1).bind fun r104 =>
  (pv r104.2 (pickA r102.1 r104.1 (.v (Go.Value.bool false)))).bind fun r105 =>
  (gsel true r105.2 (some (r100.1, r105.2)) r105.1).bind fun r106 =>
  (gsel true r106.2 (pv r106.2 (lenM Try.prog r106.2 r106.1)) r105.1).bind fun r107 =>
  (gsel true r107.2 (pv r107.2 (binA Try.prog .eql 3 r107.1 (.v (Go.Value.int Go.IntKind.i64 0)))) r105.1).bind fun r108 =>
  (pv r108.2 (pickA r105.1 r108.1 (.v (Go.Value.bool false)))).bind fun r109 =>
  some (.ret, ⟨[(6, r109.1), (21, r101.1), (20, r100.1), (88, x88), (17, x17), (16, x16), (15, x15), (73, x73), (14, x14), (56, x56), (11, x11), (9, x9), (8, x8), (29, x29), (7, x7), (23, x23), (6, x6), (5, x5), (3, x3), (0, x0), (1, x1), (2, x2)], r109.2⟩)
theorem X_l08_SuperTwice_0_0_lit {E : FnA} {n n0 : Nat} {x88 x17 x16 x15 x73 x14 x56 x11 x9 x8 x29 x7 x23 x6 x5 x3 x0 x1 x2 : AV} {y : Bx} {Q : Ex → S → Prop} (h : Ends (X_l08_SuperTwice_0_0 E n n0 x88 x17 x16 x15 x73 x14 x56 x11 x9 x8 x29 x7 x23 x6 x5 x3 x0 x1 x2 y) Q) : Ends (X_l08_SuperTwice_0 E n n0 0 ⟨[(88, x88), (17, x17), (16, x16), (15, x15), (73, x73), (14, x14), (56, x56), (11, x11), (9, x9), (8, x8), (29, x29), (7, x7), (23, x23), (6, x6), (5, x5), (3, x3), (0, x0), (1, x1), (2, x2)], y⟩) Q := by
  rw [show X_l08_SuperTwice_0 E n n0 0 ⟨[(88, x88), (17, x17), (16, x16), (15, x15), (73, x73), (14, x14), (56, x56), (11, x11), (9, x9), (8, x8), (29, x29), (7, x7), (23, x23), (6, x6), (5, x5), (3, x3), (0, x0), (1, x1), (2, x2)], y⟩ = X_l08_SuperTwice_0_0 E n n0 x88 x17 x16 x15 x73 x14 x56 x11 x9 x8 x29 x7 x23 x6 x5 x3 x0 x1 x2 y by kernel_rfl]
  exact h
noncomputable def F_l08_SuperTwice (E : FnA) (n n0 : Nat) (a0 a1 a2 : AV) (bx : Bx) : Option (Ex × S) :=
  (boxA bx a0).bind fun r1 =>
  (boxA r1.2 a2).bind fun r2 =>
  (callA E md_l08_SuperTwice r2.2 13 []).bind fun r3 =>
  (pv r3.2 (unA .not r3.1)).bind fun r4 =>
  condA r4.1 (some (.ret, ⟨[(6, (.v (Go.Value.bool false))), (23, r4.1), (6, (.v (Go.Value.bool false))), (5, r2.1), (3, r1.1), (0, a0), (1, a1), (2, a2)], r4.2⟩)) ((pv r4.2 (loadA Try.prog 23 r4.2 r1.1)).bind fun r5 =>
  (callA E md_l08_SuperTwice r5.2 20 [r5.1]).bind fun r6 =>
  (makeSliceA Try.prog r6.2 39 r6.1 r6.1).bind fun r7 =>
  (pv r7.2 (lenA Try.prog 39 r7.1)).bind fun r8 =>
  (pv r8.2 (binA Try.prog .lss 3 r8.1 (.v (Go.Value.int Go.IntKind.i64 2)))).bind fun r9 =>
  condA r9.1 ((pv r9.2 (loadA Try.prog 23 r9.2 r1.1)).bind fun r10 =>
  (callA E md_l08_SuperTwice r10.2 21 [r10.1]).bind fun r11 =>
  (pv r11.2 (binA Try.prog .neq 26 r11.1 (.v (Go.Value.int Go.IntKind.i64 0)))).bind fun r12 =>
  some (.ret, ⟨[(6, r12.1), (29, r9.1), (7, r7.1), (23, r4.1), (6, (.v (Go.Value.bool false))), (5, r2.1), (3, r1.1), (0, a0), (1, a1), (2, a2)], r12.2⟩)) ((pv r9.2 (binA Try.prog .rem 5 a1 (.v (Go.Value.int Go.IntKind.u8 2)))).bind fun r13 =>
  (convA Try.prog r13.2 5 3 r13.1).bind fun r14 =>
  (pv r14.2 (loadA Try.prog 23 r14.2 r1.1)).bind fun r15 =>
  (callA E md_l08_SuperTwice r15.2 11 [r15.1]).bind fun r16 =>
  (pv r16.2 (tupA r16.1 0)).bind fun r17 =>
  (pv r17.2 (tupA r16.1 1)).bind fun r18 =>
  (pv r18.2 (indexAddrA Try.prog 39 r7.1 r14.1)).bind fun r19 =>
  (stA Try.prog 32 r19.2 r19.1 r17.1).bind fun r20 =>
  (pv r20.2 (binA Try.prog .sub 3 (.v (Go.Value.int Go.IntKind.i64 1)) r14.1)).bind fun r21 =>
  (pv r21.2 (loadA Try.prog 32 r21.2 r2.1)).bind fun r22 =>
  (pv r22.2 (indexAddrA Try.prog 39 r7.1 r21.1)).bind fun r23 =>
  (stA Try.prog 32 r23.2 r23.1 r22.1).bind fun r24 =>
  (callA E md_l08_SuperTwice r24.2 15 [r7.1]).bind fun r25 =>
  (pv r25.2 (tupA r25.1 0)).bind fun r26 =>
  (pv r26.2 (tupA r25.1 1)).bind fun r27 =>
  (pv r27.2 (tupA r25.1 2)).bind fun r28 =>
  (allocA Try.prog r28.2 23).bind fun r29 =>
  (stA Try.prog 23 r29.2 r29.1 r26.1).bind fun r30 =>
  (pv r30.2 (binA Try.prog .neq 26 r28.1 (.v (Go.Value.int Go.IntKind.i64 0)))).bind fun r31 =>
  condA r31.1 (some (.ret, ⟨[(6, (.v (Go.Value.bool false))), (56, r31.1), (11, r28.1), (9, r29.1), (8, r14.1), (29, r9.1), (7, r7.1), (23, r4.1), (6, (.v (Go.Value.bool false))), (5, r2.1), (3, r1.1), (0, a0), (1, a1), (2, a2)], r31.2⟩)) ((pv r31.2 (buildA Try.prog 32 [])).bind fun r32 =>
  (pv r32.2 (indexAddrA Try.prog 39 r7.1 r14.1)).bind fun r33 =>
  (stA Try.prog 32 r33.2 r33.1 r32.1).bind fun r34 =>
  (callA E md_l08_SuperTwice r34.2 15 [r7.1]).bind fun r35 =>
  (pv r35.2 (tupA r35.1 0)).bind fun r36 =>
  (pv r36.2 (tupA r35.1 1)).bind fun r37 =>
  (pv r37.2 (tupA r35.1 2)).bind fun r38 =>
  (allocA Try.prog r38.2 23).bind fun r39 =>
  (stA Try.prog 23 r39.2 r39.1 r36.1).bind fun r40 =>
  (pv r40.2 (binA Try.prog .neq 26 r38.1 (.v (Go.Value.int Go.IntKind.i64 0)))).bind fun r41 =>
  (gsel true r41.2 (pv r41.2 (loadA Try.prog 23 r41.2 r29.1)) r41.1).bind fun r42 =>
  (gsel true r42.2 (pv r42.2 (loadA Try.prog 23 r42.2 r1.1)) r41.1).bind fun r43 =>
  (gsel true r43.2 (pv r43.2 (binA Try.prog .neq 23 r42.1 r43.1)) r41.1).bind fun r44 =>
  (pv r44.2 (pickA r41.1 r44.1 (.v (Go.Value.bool false)))).bind fun r45 =>
  condA r45.1 (some (.ret, ⟨[(6, (.v (Go.Value.bool false))), (73, r45.1), (14, r38.1), (56, r31.1), (11, r28.1), (9, r29.1), (8, r14.1), (29, r9.1), (7, r7.1), (23, r4.1), (6, (.v (Go.Value.bool false))), (5, r2.1), (3, r1.1), (0, a0), (1, a1), (2, a2)], r45.2⟩)) ((pv r45.2 (loadA Try.prog 23 r45.2 r1.1)).bind fun r46 =>
  (callA E md_l08_SuperTwice r46.2 11 [r46.1]).bind fun r47 =>
  (pv r47.2 (tupA r47.1 0)).bind fun r48 =>
  (pv r48.2 (tupA r47.1 1)).bind fun r49 =>
  (pv r49.2 (indexAddrA Try.prog 39 r7.1 r14.1)).bind fun r50 =>
  (stA Try.prog 32 r50.2 r50.1 r48.1).bind fun r51 =>
  (callA E md_l08_SuperTwice r51.2 17 [r7.1]).bind fun r52 =>
  (pv r52.2 (tupA r52.1 0)).bind fun r53 =>
  (pv r53.2 (tupA r52.1 1)).bind fun r54 =>
  exitA (iter ⟨[(17, (.v (Go.Value.int Go.IntKind.i64 0))), (16, r54.1), (15, r53.1), (73, r45.1), (14, r38.1), (56, r31.1), (11, r28.1), (9, r29.1), (8, r14.1), (29, r9.1), (7, r7.1), (23, r4.1), (6, (.v (Go.Value.bool false))), (5, r2.1), (3, r1.1), (0, a0), (1, a1), (2, a2)], r54.2⟩ (L_l08_SuperTwice_0 E n n0) n ⟨[(17, (.v (Go.Value.int Go.IntKind.i64 0))), (16, r54.1), (15, r53.1), (73, r45.1), (14, r38.1), (56, r31.1), (11, r28.1), (9, r29.1), (8, r14.1), (29, r9.1), (7, r7.1), (23, r4.1), (6, (.v (Go.Value.bool false))), (5, r2.1), (3, r1.1), (0, a0), (1, a1), (2, a2)], r54.2⟩) (K_l08_SuperTwice_0 E n n0) (X_l08_SuperTwice_0 E n n0)))))
theorem c_l08_SuperTwice_eq : Try.f6.body = some c_l08_SuperTwice := by kernel_rfl
theorem d_l08_SuperTwice : drawsOk Try.prog md_l08_SuperTwice c_l08_SuperTwice = true := by kernel_rfl
theorem F_l08_SuperTwice_eq (E : FnA) (n n0 : Nat) (a0 a1 a2 : AV) (bx : Bx) : evK Try.prog md_l08_SuperTwice E 118 kp_l08_SuperTwice n n0 c_l08_SuperTwice ⟨[(0, a0), (1, a1), (2, a2)], bx⟩ (fun s => some (.normal, s)) (fun i s => some (.exit i, s)) = F_l08_SuperTwice E n n0 a0 a1 a2 bx := by kernel_rfl

theorem E_l08_SuperTwice (n : Nat) (a0 a1 a2 : AV) (bx : Bx) : evFn cx0 ext0 (n + 1) 6 [a0, a1, a2] bx = fin Try.prog [.tmp 6] (F_l08_SuperTwice (evFn cx0 ext0 n) n bx.length a0 a1 a2 bx) := by
  rw [evFn_eq2 (cx := cx0) (c := c_l08_SuperTwice) rfl Try.func6 c_l08_SuperTwice_eq (of_decide_eq_true (by kernel_rfl)) d_l08_SuperTwice (of_decide_eq_true (by kernel_rfl))]
  exact congrArg (fin Try.prog [.tmp 6]) (F_l08_SuperTwice_eq (evFn cx0 ext0 n) n bx.length a0 a1 a2 bx)

/-- scupper/super.Put -/
def kp_super_Put : Option (List Nat) := some [0, 1, 2, 3, 4, 5, 6, 8, 9, 13, 24, 25, 26]
noncomputable def c_super_Put : Code := Try.f7.body.getD .skip
noncomputable def L_super_Put_0 (E : FnA) (_n _n0 : Nat) (s : S) : Option (Ex × S) :=
  (pv s.bx (binA Try.prog .lss 3 (get s.env 25) (.v (Go.Value.int Go.IntKind.i64 3)))).bind fun r29 =>
  condA r29.1 ((pv r29.2 (indexA Try.prog 59 (get (prune kp_super_Put s.env) 24) (get (prune kp_super_Put s.env) 25))).bind fun r30 =>
  (convA Try.prog r30.2 3 62 r30.1).bind fun r31 =>
  (callA E md0 r31.2 22 [r31.1]).bind fun r32 =>
  (allocA Try.prog r32.2 60).bind fun r33 =>
  (stA Try.prog 60 r33.2 r33.1 r32.1).bind fun r34 =>
  (pv r34.2 (sliceA Try.prog r34.2 25 (get (prune kp_super_Put (prune kp_super_Put (prune kp_super_Put s.env))) 4) (some (get (prune kp_super_Put (prune kp_super_Put (prune kp_super_Put s.env))) 6)) none none)).bind fun r35 =>
  (pv r35.2 (sliceA Try.prog r35.2 60 r33.1 none none none)).bind fun r36 =>
  (copyA Try.prog r36.2 58 r35.1 r36.1).bind fun r37 =>
  (pv r37.2 (binA Try.prog .add 3 (get (prune kp_super_Put (prune kp_super_Put (prune kp_super_Put s.env))) 6) r37.1)).bind fun r38 =>
  (pv r38.2 (binA Try.prog .add 3 (get (prune kp_super_Put (prune kp_super_Put (prune kp_super_Put (prune kp_super_Put s.env)))) 25) (.v (Go.Value.int Go.IntKind.i64 1)))).bind fun r39 =>
  some (.normal, ⟨((25, r39.1) :: (6, r38.1) :: (9, r33.1) :: (8, r30.1) :: (26, r29.1) :: (prune kp_super_Put (prune kp_super_Put (prune kp_super_Put (prune kp_super_Put (prune kp_super_Put s.env)))))), r39.2⟩)) (some (.exit 0, ⟨((26, r29.1) :: (prune kp_super_Put s.env)), r29.2⟩))
noncomputable def B_super_Put_0 (E : FnA) (_n _n0 : Nat) (x25 x24 x6 x13 x5 x4 x3 x2 x1 x0 : AV) (y : Bx) : Option (Ex × S) :=
  (pv y (binA Try.prog .lss 3 x25 (.v (Go.Value.int Go.IntKind.i64 3)))).bind fun r18 =>
  condA r18.1 ((pv r18.2 (indexA Try.prog 59 x24 x25)).bind fun r19 =>
  (convA Try.prog r19.2 3 62 r19.1).bind fun r20 =>
  (callA E md0 r20.2 22 [r20.1]).bind fun r21 =>
  (allocA Try.prog r21.2 60).bind fun r22 =>
  (stA Try.prog 60 r22.2 r22.1 r21.1).bind fun r23 =>
  (pv r23.2 (sliceA Try.prog r23.2 25 x4 (some x6) none none)).bind fun r24 =>
  (pv r24.2 (sliceA Try.prog r24.2 60 r22.1 none none none)).bind fun r25 =>
  (copyA Try.prog r25.2 58 r24.1 r25.1).bind fun r26 =>
  (pv r26.2 (binA Try.prog .add 3 x6 r26.1)).bind fun r27 =>
  (pv r27.2 (binA Try.prog .add 3 x25 (.v (Go.Value.int Go.IntKind.i64 1)))).bind fun r28 =>
  some (.normal, ⟨[(25, r28.1), (6, r27.1), (9, r22.1), (8, r19.1), (26, r18.1), (25, x25), (24, x24), (6, x6), (13, x13), (5, x5), (4, x4), (3, x3), (2, x2), (1, x1), (0, x0)], r28.2⟩)) (some (.exit 0, ⟨[(26, r18.1), (25, x25), (24, x24), (6, x6), (13, x13), (5, x5), (4, x4), (3, x3), (2, x2), (1, x1), (0, x0)], r18.2⟩))
theorem L_super_Put_0_lit {E : FnA} {n n0 : Nat} {x25 x24 x6 x13 x5 x4 x3 x2 x1 x0 : AV} {y : Bx} {Q : Ex → S → Prop} (h : Ends (B_super_Put_0 E n n0 x25 x24 x6 x13 x5 x4 x3 x2 x1 x0 y) Q) : Ends (L_super_Put_0 E n n0 ⟨[(25, x25), (24, x24), (6, x6), (13, x13), (5, x5), (4, x4), (3, x3), (2, x2), (1, x1), (0, x0)], y⟩) Q := by
  rw [show L_super_Put_0 E n n0 ⟨[(25, x25), (24, x24), (6, x6), (13, x13), (5, x5), (4, x4), (3, x3), (2, x2), (1, x1), (0, x0)], y⟩ = B_super_Put_0 E n n0 x25 x24 x6 x13 x5 x4 x3 x2 x1 x0 y by kernel_rfl]
  exact h
noncomputable def K_super_Put_0 (_E : FnA) (_n _n0 : Nat) (t : S) : Option (Ex × S) :=
  (pv t.bx (loadA Try.prog 25 t.bx (get t.env 4))).bind fun r42 =>
  (stA Try.prog 25 r42.2 (get t.env 2) r42.1).bind fun r43 =>
  some (.ret, ⟨((3, (.v (Go.Value.int Go.IntKind.i64 0))) :: (prune kp_super_Put t.env)), r43.2⟩)
noncomputable def X_super_Put_0 (_E : FnA) (_n _n0 : Nat) (i : Nat) (t : S) : Option (Ex × S) :=
  if i = 0 then (pv t.bx (loadA Try.prog 25 t.bx (get t.env 4))).bind fun r40 =>
  (stA Try.prog 25 r40.2 (get t.env 2) r40.1).bind fun r41 =>
  some (.ret, ⟨((3, (.v (Go.Value.int Go.IntKind.i64 0))) :: (prune kp_super_Put t.env)), r41.2⟩) else some (.exit i, ⟨t.env, t.bx⟩)
noncomputable def X_super_Put_0_0 (_E : FnA) (_n _n0 : Nat) (x26 x25 x24 x6 x13 x5 x4 x3 x2 x1 x0 : AV) (y : Bx) : Option (Ex × S) :=
  (pv y (loadA Try.prog 25 y x4)).bind fun r44 =>
  (stA Try.prog 25 r44.2 x2 r44.1).bind fun r45 =>
  some (.ret, ⟨[(3, (.v (Go.Value.int Go.IntKind.i64 0))), (26, x26), (25, x25), (24, x24), (6, x6), (13, x13), (5, x5), (4, x4), (3, x3), (2, x2), (1, x1), (0, x0)], r45.2⟩)
theorem X_super_Put_0_0_lit {E : FnA} {n n0 : Nat} {x26 x25 x24 x6 x13 x5 x4 x3 x2 x1 x0 : AV} {y : Bx} {Q : Ex → S → Prop} (h : Ends (X_super_Put_0_0 E n n0 x26 x25 x24 x6 x13 x5 x4 x3 x2 x1 x0 y) Q) : Ends (X_super_Put_0 E n n0 0 ⟨[(26, x26), (25, x25), (24, x24), (6, x6), (13, x13), (5, x5), (4, x4), (3, x3), (2, x2), (1, x1), (0, x0)], y⟩) Q := by
  rw [show X_super_Put_0 E n n0 0 ⟨[(26, x26), (25, x25), (24, x24), (6, x6), (13, x13), (5, x5), (4, x4), (3, x3), (2, x2), (1, x1), (0, x0)], y⟩ = X_super_Put_0_0 E n n0 x26 x25 x24 x6 x13 x5 x4 x3 x2 x1 x0 y by kernel_rfl]
  exact h
noncomputable def F_super_Put (E : FnA) (n n0 : Nat) (a0 : AV) (bx : Bx) : Option (Ex × S) :=
  (boxA bx a0).bind fun r1 =>
  (allocA Try.prog r1.2 25).bind fun r2 =>
  (allocA Try.prog r2.2 25).bind fun r3 =>
  (pv r3.2 (loadA Try.prog 23 r3.2 r1.1)).bind fun r4 =>
  (callA E md0 r4.2 21 [r4.1]).bind fun r5 =>
  (pv r5.2 (binA Try.prog .neq 26 r5.1 (.v (Go.Value.int Go.IntKind.i64 0)))).bind fun r6 =>
  condA r6.1 ((pv r6.2 (loadA Try.prog 25 r6.2 r3.1)).bind fun r7 =>
  (stA Try.prog 25 r7.2 r2.1 r7.1).bind fun r8 =>
  some (.ret, ⟨[(3, r5.1), (13, r6.1), (5, r5.1), (4, r3.1), (3, (.v (Go.Value.int Go.IntKind.i64 0))), (2, r2.1), (1, r1.1), (0, a0)], r8.2⟩)) ((pv r6.2 (sliceA Try.prog r6.2 25 r3.1 none none none)).bind fun r9 =>
  (copyA Try.prog r9.2 58 r9.1 (.v (Go.Value.string (ByteArray.mk #[83, 67, 85, 80])))).bind fun r10 =>
  (pv r10.2 (fieldAddrA Try.prog 23 r1.1 0)).bind fun r11 =>
  (pv r11.2 (loadA Try.prog 3 r11.2 r11.1)).bind fun r12 =>
  (pv r12.2 (fieldAddrA Try.prog 23 r1.1 1)).bind fun r13 =>
  (pv r13.2 (loadA Try.prog 3 r13.2 r13.1)).bind fun r14 =>
  (pv r14.2 (fieldAddrA Try.prog 23 r1.1 2)).bind fun r15 =>
  (pv r15.2 (loadA Try.prog 3 r15.2 r15.1)).bind fun r16 =>
  (pv r16.2 (buildA Try.prog 59 [(0, r12.1), (1, r14.1), (2, r16.1)])).bind fun r17 =>
  exitA (iter ⟨[(25, (.v (Go.Value.int Go.IntKind.i64 0))), (24, r17.1), (6, r10.1), (13, r6.1), (5, r5.1), (4, r3.1), (3, (.v (Go.Value.int Go.IntKind.i64 0))), (2, r2.1), (1, r1.1), (0, a0)], r17.2⟩ (L_super_Put_0 E n n0) n ⟨[(25, (.v (Go.Value.int Go.IntKind.i64 0))), (24, r17.1), (6, r10.1), (13, r6.1), (5, r5.1), (4, r3.1), (3, (.v (Go.Value.int Go.IntKind.i64 0))), (2, r2.1), (1, r1.1), (0, a0)], r17.2⟩) (K_super_Put_0 E n n0) (X_super_Put_0 E n n0))
theorem c_super_Put_eq : Try.f7.body = some c_super_Put := by kernel_rfl
theorem d_super_Put : drawsOk Try.prog md0 c_super_Put = true := by kernel_rfl
theorem F_super_Put_eq (E : FnA) (n n0 : Nat) (a0 : AV) (bx : Bx) : evK Try.prog md0 E 39 kp_super_Put n n0 c_super_Put ⟨[(0, a0)], bx⟩ (fun s => some (.normal, s)) (fun i s => some (.exit i, s)) = F_super_Put E n n0 a0 bx := by kernel_rfl

theorem E_super_Put (n : Nat) (a0 : AV) (bx : Bx) : evFn cx0 ext0 (n + 1) 7 [a0] bx = fin Try.prog [.cell 2 25, .tmp 3] (F_super_Put (evFn cx0 ext0 n) n bx.length a0 bx) := by
  rw [evFn_eq2 (cx := cx0) (c := c_super_Put) rfl Try.func7 c_super_Put_eq (of_decide_eq_true (by kernel_rfl)) d_super_Put (of_decide_eq_true (by kernel_rfl))]
  exact congrArg (fin Try.prog [.cell 2 25, .tmp 3]) (F_super_Put_eq (evFn cx0 ext0 n) n bx.length a0 bx)

/-- scupper/scupperref08.Put -/
def kp_r08_Put : Option (List Nat) := some [0, 1, 2, 3, 4, 5, 6, 7, 11, 35]
noncomputable def c_r08_Put : Code := Try.f8.body.getD .skip
noncomputable def L_r08_Put_0 (_E : FnA) (_n _n0 : Nat) (s : S) : Option (Ex × S) :=
  (pv s.bx (lenA Try.prog 58 (get s.env 5))).bind fun r34 =>
  (pv r34.2 (binA Try.prog .lss 3 (get s.env 7) r34.1)).bind fun r35 =>
  condA r35.1 ((pv r35.2 (indexAddrA Try.prog 58 (get (prune kp_r08_Put s.env) 5) (get (prune kp_r08_Put s.env) 7))).bind fun r36 =>
  (pv r36.2 (loadA Try.prog 5 r36.2 r36.1)).bind fun r37 =>
  (pv r37.2 (indexAddrA Try.prog 25 (get (prune kp_r08_Put s.env) 6) (get (prune kp_r08_Put s.env) 7))).bind fun r38 =>
  (stA Try.prog 5 r38.2 r38.1 r37.1).bind fun r39 =>
  (pv r39.2 (binA Try.prog .add 3 (get (prune kp_r08_Put (prune kp_r08_Put s.env)) 7) (.v (Go.Value.int Go.IntKind.i64 1)))).bind fun r40 =>
  some (.normal, ⟨((7, r40.1) :: (35, r35.1) :: (prune kp_r08_Put (prune kp_r08_Put (prune kp_r08_Put s.env)))), r40.2⟩)) (some (.exit 0, ⟨((35, r35.1) :: (prune kp_r08_Put s.env)), r35.2⟩))
noncomputable def B_r08_Put_0 (_E : FnA) (_n _n0 : Nat) (x7 x6 x5 x5_1 x11 x4 x3 x2 x1 x0 : AV) (y : Bx) : Option (Ex × S) :=
  (pv y (lenA Try.prog 58 x5)).bind fun r27 =>
  (pv r27.2 (binA Try.prog .lss 3 x7 r27.1)).bind fun r28 =>
  condA r28.1 ((pv r28.2 (indexAddrA Try.prog 58 x5 x7)).bind fun r29 =>
  (pv r29.2 (loadA Try.prog 5 r29.2 r29.1)).bind fun r30 =>
  (pv r30.2 (indexAddrA Try.prog 25 x6 x7)).bind fun r31 =>
  (stA Try.prog 5 r31.2 r31.1 r30.1).bind fun r32 =>
  (pv r32.2 (binA Try.prog .add 3 x7 (.v (Go.Value.int Go.IntKind.i64 1)))).bind fun r33 =>
  some (.normal, ⟨[(7, r33.1), (35, r28.1), (7, x7), (6, x6), (5, x5), (5, x5_1), (11, x11), (4, x4), (3, x3), (2, x2), (1, x1), (0, x0)], r33.2⟩)) (some (.exit 0, ⟨[(35, r28.1), (7, x7), (6, x6), (5, x5), (5, x5_1), (11, x11), (4, x4), (3, x3), (2, x2), (1, x1), (0, x0)], r28.2⟩))
theorem L_r08_Put_0_lit {E : FnA} {n n0 : Nat} {x7 x6 x5 x5_1 x11 x4 x3 x2 x1 x0 : AV} {y : Bx} {Q : Ex → S → Prop} (h : Ends (B_r08_Put_0 E n n0 x7 x6 x5 x5_1 x11 x4 x3 x2 x1 x0 y) Q) : Ends (L_r08_Put_0 E n n0 ⟨[(7, x7), (6, x6), (5, x5), (5, x5_1), (11, x11), (4, x4), (3, x3), (2, x2), (1, x1), (0, x0)], y⟩) Q := by
  rw [show L_r08_Put_0 E n n0 ⟨[(7, x7), (6, x6), (5, x5), (5, x5_1), (11, x11), (4, x4), (3, x3), (2, x2), (1, x1), (0, x0)], y⟩ = B_r08_Put_0 E n n0 x7 x6 x5 x5_1 x11 x4 x3 x2 x1 x0 y by kernel_rfl]
  exact h
noncomputable def K_r08_Put_0 (_E : FnA) (_n _n0 : Nat) (t : S) : Option (Ex × S) :=
  (pv t.bx (loadA Try.prog 25 t.bx (get t.env 6))).bind fun r43 =>
  (stA Try.prog 25 r43.2 (get t.env 2) r43.1).bind fun r44 =>
  some (.ret, ⟨((3, (.v (Go.Value.int Go.IntKind.i64 0))) :: (prune kp_r08_Put t.env)), r44.2⟩)
noncomputable def X_r08_Put_0 (_E : FnA) (_n _n0 : Nat) (i : Nat) (t : S) : Option (Ex × S) :=
  if i = 0 then (pv t.bx (loadA Try.prog 25 t.bx (get t.env 6))).bind fun r41 =>
  (stA Try.prog 25 r41.2 (get t.env 2) r41.1).bind fun r42 =>
  some (.ret, ⟨((3, (.v (Go.Value.int Go.IntKind.i64 0))) :: (prune kp_r08_Put t.env)), r42.2⟩) else some (.exit i, ⟨t.env, t.bx⟩)
noncomputable def X_r08_Put_0_0 (_E : FnA) (_n _n0 : Nat) (x35 x7 x6 x5 x5_1 x11 x4 x3 x2 x1 x0 : AV) (y : Bx) : Option (Ex × S) :=
  (pv y (loadA Try.prog 25 y x6)).bind fun r45 =>
  (stA Try.prog 25 r45.2 x2 r45.1).bind fun r46 =>
  some (.ret, ⟨[(3, (.v (Go.Value.int Go.IntKind.i64 0))), (35, x35), (7, x7), (6, x6), (5, x5), (5, x5_1), (11, x11), (4, x4), (3, x3), (2, x2), (1, x1), (0, x0)], r46.2⟩)
theorem X_r08_Put_0_0_lit {E : FnA} {n n0 : Nat} {x35 x7 x6 x5 x5_1 x11 x4 x3 x2 x1 x0 : AV} {y : Bx} {Q : Ex → S → Prop} (h : Ends (X_r08_Put_0_0 E n n0 x35 x7 x6 x5 x5_1 x11 x4 x3 x2 x1 x0 y) Q) : Ends (X_r08_Put_0 E n n0 0 ⟨[(35, x35), (7, x7), (6, x6), (5, x5), (5, x5_1), (11, x11), (4, x4), (3, x3), (2, x2), (1, x1), (0, x0)], y⟩) Q := by
  rw [show X_r08_Put_0 E n n0 0 ⟨[(35, x35), (7, x7), (6, x6), (5, x5), (5, x5_1), (11, x11), (4, x4), (3, x3), (2, x2), (1, x1), (0, x0)], y⟩ = X_r08_Put_0_0 E n n0 x35 x7 x6 x5 x5_1 x11 x4 x3 x2 x1 x0 y by kernel_rfl]
  exact h
noncomputable def F_r08_Put (E : FnA) (n n0 : Nat) (a0 : AV) (bx : Bx) : Option (Ex × S) :=
  (boxA bx a0).bind fun r1 =>
  (allocA Try.prog r1.2 25).bind fun r2 =>
  (pv r2.2 (loadA Try.prog 23 r2.2 r1.1)).bind fun r3 =>
  (callA E md0 r3.2 23 [r3.1]).bind fun r4 =>
  (pv r4.2 (binA Try.prog .neq 26 r4.1 (.v (Go.Value.int Go.IntKind.i64 0)))).bind fun r5 =>
  condA r5.1 ((pv r5.2 (buildA Try.prog 25 [])).bind fun r6 =>
  (stA Try.prog 25 r6.2 r2.1 r6.1).bind fun r7 =>
  some (.ret, ⟨[(3, r4.1), (11, r5.1), (4, r4.1), (3, (.v (Go.Value.int Go.IntKind.i64 0))), (2, r2.1), (1, r1.1), (0, a0)], r7.2⟩)) ((buildSliceA Try.prog r5.2 58 4 [(0, (.v (Go.Value.int Go.IntKind.u8 83))), (1, (.v (Go.Value.int Go.IntKind.u8 67))), (2, (.v (Go.Value.int Go.IntKind.u8 85))), (3, (.v (Go.Value.int Go.IntKind.u8 80)))]).bind fun r8 =>
  (pv r8.2 (fieldAddrA Try.prog 23 r1.1 0)).bind fun r9 =>
  (pv r9.2 (loadA Try.prog 3 r9.2 r9.1)).bind fun r10 =>
  (convA Try.prog r10.2 3 62 r10.1).bind fun r11 =>
  (callA E md0 r11.2 24 [r11.1]).bind fun r12 =>
  (appA Try.prog n0 r12.2 58 r8.1 r12.1).bind fun r13 =>
  (pv r13.2.2 (fieldAddrA Try.prog 23 (r13.2.1 r1.1) 1)).bind fun r14 =>
  (guardB (freeA r8.1 (r13.2.1 r1.1) && (freeA r8.1 r14.1 && true))).bind fun _ =>
  (guardB (apartV (apAd r12.2 r8.1) r14.1 && true)).bind fun _ =>
  (pv r14.2 (loadA Try.prog 3 r14.2 r14.1)).bind fun r15 =>
  (guardB (freeA r8.1 r14.1 && (freeA r8.1 r15.1 && true))).bind fun _ =>
  (guardB (apartV (apAd r12.2 r8.1) (callAd [r15.1]) && true)).bind fun _ =>
  (convA Try.prog r15.2 3 62 r15.1).bind fun r16 =>
  (guardB (freeA r8.1 r15.1 && (freeA r8.1 r16.1 && true))).bind fun _ =>
  (callA E md0 r16.2 24 [r16.1]).bind fun r17 =>
  (appA Try.prog n0 r17.2 58 r13.1 r17.1).bind fun r18 =>
  (pv r18.2.2 (fieldAddrA Try.prog 23 (r18.2.1 (r13.2.1 r1.1)) 2)).bind fun r19 =>
  (guardB (freeA r8.1 (r18.2.1 (r13.2.1 r1.1)) && (freeA r8.1 r19.1 && (freeA r13.1 (r18.2.1 (r13.2.1 r1.1)) && (freeA r13.1 r19.1 && true))))).bind fun _ =>
  (guardB (apartV (apAd r12.2 r8.1) r19.1 && (apartV (apAd r17.2 r13.1) r19.1 && true))).bind fun _ =>
  (pv r19.2 (loadA Try.prog 3 r19.2 r19.1)).bind fun r20 =>
  (guardB (freeA r8.1 r19.1 && (freeA r8.1 r20.1 && (freeA r13.1 r19.1 && (freeA r13.1 r20.1 && true))))).bind fun _ =>
  (guardB (apartV (apAd r12.2 r8.1) (callAd [r20.1]) && (apartV (apAd r17.2 r13.1) (callAd [r20.1]) && true))).bind fun _ =>
  (convA Try.prog r20.2 3 62 r20.1).bind fun r21 =>
  (guardB (freeA r8.1 r20.1 && (freeA r8.1 r21.1 && (freeA r13.1 r20.1 && (freeA r13.1 r21.1 && true))))).bind fun _ =>
  (callA E md0 r21.2 24 [r21.1]).bind fun r22 =>
  (appA Try.prog n0 r22.2 58 r18.1 r22.1).bind fun r23 =>
  (pv r23.2.2 (buildA Try.prog 25 [])).bind fun r24 =>
  (allocA Try.prog r24.2 25).bind fun r25 =>
  (stA Try.prog 25 r25.2 r25.1 r24.1).bind fun r26 =>
  exitA (iter ⟨[(7, (.v (Go.Value.int Go.IntKind.i64 0))), (6, r25.1), (5, r23.1), (5, (r23.2.1 (r18.2.1 (r13.2.1 r8.1)))), (11, (r23.2.1 (r18.2.1 (r13.2.1 r5.1)))), (4, (r23.2.1 (r18.2.1 (r13.2.1 r4.1)))), (3, (r23.2.1 (r18.2.1 (r13.2.1 (.v (Go.Value.int Go.IntKind.i64 0)))))), (2, (r23.2.1 (r18.2.1 (r13.2.1 r2.1)))), (1, (r23.2.1 (r18.2.1 (r13.2.1 r1.1)))), (0, (r23.2.1 (r18.2.1 (r13.2.1 a0))))], r26.2⟩ (L_r08_Put_0 E n n0) n ⟨[(7, (.v (Go.Value.int Go.IntKind.i64 0))), (6, r25.1), (5, r23.1), (5, (r23.2.1 (r18.2.1 (r13.2.1 r8.1)))), (11, (r23.2.1 (r18.2.1 (r13.2.1 r5.1)))), (4, (r23.2.1 (r18.2.1 (r13.2.1 r4.1)))), (3, (r23.2.1 (r18.2.1 (r13.2.1 (.v (Go.Value.int Go.IntKind.i64 0)))))), (2, (r23.2.1 (r18.2.1 (r13.2.1 r2.1)))), (1, (r23.2.1 (r18.2.1 (r13.2.1 r1.1)))), (0, (r23.2.1 (r18.2.1 (r13.2.1 a0))))], r26.2⟩) (K_r08_Put_0 E n n0) (X_r08_Put_0 E n n0))
theorem c_r08_Put_eq : Try.f8.body = some c_r08_Put := by kernel_rfl
theorem d_r08_Put : drawsOk Try.prog md0 c_r08_Put = true := by kernel_rfl
theorem F_r08_Put_eq (E : FnA) (n n0 : Nat) (a0 : AV) (bx : Bx) : evK Try.prog md0 E 45 kp_r08_Put n n0 c_r08_Put ⟨[(0, a0)], bx⟩ (fun s => some (.normal, s)) (fun i s => some (.exit i, s)) = F_r08_Put E n n0 a0 bx := by kernel_rfl

theorem E_r08_Put (n : Nat) (a0 : AV) (bx : Bx) : evFn cx0 ext0 (n + 1) 8 [a0] bx = fin Try.prog [.cell 2 25, .tmp 3] (F_r08_Put (evFn cx0 ext0 n) n bx.length a0 bx) := by
  rw [evFn_eq2 (cx := cx0) (c := c_r08_Put) rfl Try.func8 c_r08_Put_eq (of_decide_eq_true (by kernel_rfl)) d_r08_Put (of_decide_eq_true (by kernel_rfl))]
  exact congrArg (fin Try.prog [.cell 2 25, .tmp 3]) (F_r08_Put_eq (evFn cx0 ext0 n) n bx.length a0 bx)

/-- scupper/super.Get -/
def kp_super_Get : Option (List Nat) := some [0, 1, 2, 3, 4, 5, 6, 8, 9, 10, 11, 12, 45]
noncomputable def c_super_Get : Code := Try.f9.body.getD .skip
noncomputable def L_super_Get_0 (E : FnA) (_n _n0 : Nat) (s : S) : Option (Ex × S) :=
  (pv s.bx (binA Try.prog .lss 3 (get s.env 11) (.v (Go.Value.int Go.IntKind.i64 3)))).bind fun r15 =>
  condA r15.1 ((pv r15.2 (sliceA Try.prog r15.2 25 (get (prune kp_super_Get (prune kp_super_Get s.env)) 1) none none none)).bind fun r16 =>
  (pv r16.2 (binA Try.prog .mul 3 (.v (Go.Value.int Go.IntKind.i64 2)) (get (prune kp_super_Get s.env) 11))).bind fun r17 =>
  (pv r17.2 (binA Try.prog .add 3 (.v (Go.Value.int Go.IntKind.i64 4)) r17.1)).bind fun r18 =>
  (callA E md0 r18.2 25 [r16.1, r18.1]).bind fun r19 =>
  (pv r19.2 (tupA r19.1 0)).bind fun r20 =>
  (pv r20.2 (tupA r19.1 1)).bind fun r21 =>
  (convA Try.prog r21.2 62 3 r20.1).bind fun r22 =>
  (pv r22.2 (indexAddrA Try.prog 59 (get (prune kp_super_Get (prune kp_super_Get (prune kp_super_Get s.env))) 4) (get (prune kp_super_Get s.env) 11))).bind fun r23 =>
  (stA Try.prog 3 r23.2 r23.1 r22.1).bind fun r24 =>
  (pv r24.2 (binA Try.prog .add 3 (get (prune kp_super_Get (prune kp_super_Get (prune kp_super_Get (prune kp_super_Get s.env)))) 11) (.v (Go.Value.int Go.IntKind.i64 1)))).bind fun r25 =>
  some (.normal, ⟨((11, r25.1) :: (6, r20.1) :: (5, (get (prune kp_super_Get s.env) 11)) :: (12, r15.1) :: (prune kp_super_Get (prune kp_super_Get (prune kp_super_Get (prune kp_super_Get (prune kp_super_Get s.env)))))), r25.2⟩)) (some (.exit 0, ⟨((12, r15.1) :: (prune kp_super_Get s.env)), r15.2⟩))
noncomputable def B_super_Get_0 (E : FnA) (_n _n0 : Nat) (x11 x4 x3 x2 x1 x0 : AV) (y : Bx) : Option (Ex × S) :=
  (pv y (binA Try.prog .lss 3 x11 (.v (Go.Value.int Go.IntKind.i64 3)))).bind fun r4 =>
  condA r4.1 ((pv r4.2 (sliceA Try.prog r4.2 25 x1 none none none)).bind fun r5 =>
  (pv r5.2 (binA Try.prog .mul 3 (.v (Go.Value.int Go.IntKind.i64 2)) x11)).bind fun r6 =>
  (pv r6.2 (binA Try.prog .add 3 (.v (Go.Value.int Go.IntKind.i64 4)) r6.1)).bind fun r7 =>
  (callA E md0 r7.2 25 [r5.1, r7.1]).bind fun r8 =>
  (pv r8.2 (tupA r8.1 0)).bind fun r9 =>
  (pv r9.2 (tupA r8.1 1)).bind fun r10 =>
  (convA Try.prog r10.2 62 3 r9.1).bind fun r11 =>
  (pv r11.2 (indexAddrA Try.prog 59 x4 x11)).bind fun r12 =>
  (stA Try.prog 3 r12.2 r12.1 r11.1).bind fun r13 =>
  (pv r13.2 (binA Try.prog .add 3 x11 (.v (Go.Value.int Go.IntKind.i64 1)))).bind fun r14 =>
  some (.normal, ⟨[(11, r14.1), (6, r9.1), (5, x11), (12, r4.1), (11, x11), (4, x4), (3, x3), (2, x2), (1, x1), (0, x0)], r14.2⟩)) (some (.exit 0, ⟨[(12, r4.1), (11, x11), (4, x4), (3, x3), (2, x2), (1, x1), (0, x0)], r4.2⟩))
theorem L_super_Get_0_lit {E : FnA} {n n0 : Nat} {x11 x4 x3 x2 x1 x0 : AV} {y : Bx} {Q : Ex → S → Prop} (h : Ends (B_super_Get_0 E n n0 x11 x4 x3 x2 x1 x0 y) Q) : Ends (L_super_Get_0 E n n0 ⟨[(11, x11), (4, x4), (3, x3), (2, x2), (1, x1), (0, x0)], y⟩) Q := by
  rw [show L_super_Get_0 E n n0 ⟨[(11, x11), (4, x4), (3, x3), (2, x2), (1, x1), (0, x0)], y⟩ = B_super_Get_0 E n n0 x11 x4 x3 x2 x1 x0 y by kernel_rfl]
  exact h
noncomputable def K_super_Get_0 (E : FnA) (_n _n0 : Nat) (t : S) : Option (Ex × S) :=
  (pv t.bx (indexAddrA Try.prog 59 (get t.env 4) (.v (Go.Value.int Go.IntKind.i64 0)))).bind fun r50 =>
  (pv r50.2 (loadA Try.prog 3 r50.2 r50.1)).bind fun r51 =>
  (pv r51.2 (indexAddrA Try.prog 59 (get t.env 4) (.v (Go.Value.int Go.IntKind.i64 1)))).bind fun r52 =>
  (pv r52.2 (loadA Try.prog 3 r52.2 r52.1)).bind fun r53 =>
  (pv r53.2 (indexAddrA Try.prog 59 (get t.env 4) (.v (Go.Value.int Go.IntKind.i64 2)))).bind fun r54 =>
  (pv r54.2 (loadA Try.prog 3 r54.2 r54.1)).bind fun r55 =>
  (pv r55.2 (buildA Try.prog 23 [(0, r51.1), (1, r53.1), (2, r55.1)])).bind fun r56 =>
  (allocA Try.prog r56.2 23).bind fun r57 =>
  (stA Try.prog 23 r57.2 r57.1 r56.1).bind fun r58 =>
  (pv r58.2 (loadA Try.prog 23 r58.2 r57.1)).bind fun r59 =>
  (callA E md0 r59.2 7 [r59.1]).bind fun r60 =>
  (pv r60.2 (tupA r60.1 0)).bind fun r61 =>
  (pv r61.2 (tupA r60.1 1)).bind fun r62 =>
  (allocA Try.prog r62.2 25).bind fun r63 =>
  (stA Try.prog 25 r63.2 r63.1 r61.1).bind fun r64 =>
  (pv r64.2 (binA Try.prog .neq 26 r62.1 (.v (Go.Value.int Go.IntKind.i64 0)))).bind fun r65 =>
  (gsel false r65.2 (pv r65.2 (loadA Try.prog 25 r65.2 r63.1)) r65.1).bind fun r66 =>
  (gsel false r66.2 (pv r66.2 (loadA Try.prog 25 r66.2 (get (prune kp_super_Get (prune kp_super_Get t.env)) 1))) r65.1).bind fun r67 =>
  (gsel false r67.2 (pv r67.2 (binA Try.prog .neq 25 r66.1 r67.1)) r65.1).bind fun r68 =>
  (pv r68.2 (pickA r65.1 (.v (Go.Value.bool true)) r68.1)).bind fun r69 =>
  condA r69.1 ((pv r69.2 (buildA Try.prog 23 [])).bind fun r70 =>
  (stA Try.prog 23 r70.2 (get (prune kp_super_Get (prune kp_super_Get (prune kp_super_Get t.env))) 2) r70.1).bind fun r71 =>
  some (.ret, ⟨((3, (.v (Go.Value.int Go.IntKind.i64 22))) :: (45, r69.1) :: (10, r62.1) :: (9, r63.1) :: (8, r57.1) :: (prune kp_super_Get (prune kp_super_Get (prune kp_super_Get (prune kp_super_Get t.env))))), r71.2⟩)) ((pv r69.2 (loadA Try.prog 23 r69.2 r57.1)).bind fun r72 =>
  (stA Try.prog 23 r72.2 (get (prune kp_super_Get (prune kp_super_Get (prune kp_super_Get t.env))) 2) r72.1).bind fun r73 =>
  some (.ret, ⟨((3, (.v (Go.Value.int Go.IntKind.i64 0))) :: (45, r69.1) :: (10, r62.1) :: (9, r63.1) :: (8, r57.1) :: (prune kp_super_Get (prune kp_super_Get (prune kp_super_Get (prune kp_super_Get t.env))))), r73.2⟩))
noncomputable def X_super_Get_0 (E : FnA) (_n _n0 : Nat) (i : Nat) (t : S) : Option (Ex × S) :=
  if i = 0 then (pv t.bx (indexAddrA Try.prog 59 (get t.env 4) (.v (Go.Value.int Go.IntKind.i64 0)))).bind fun r26 =>
  (pv r26.2 (loadA Try.prog 3 r26.2 r26.1)).bind fun r27 =>
  (pv r27.2 (indexAddrA Try.prog 59 (get t.env 4) (.v (Go.Value.int Go.IntKind.i64 1)))).bind fun r28 =>
  (pv r28.2 (loadA Try.prog 3 r28.2 r28.1)).bind fun r29 =>
  (pv r29.2 (indexAddrA Try.prog 59 (get t.env 4) (.v (Go.Value.int Go.IntKind.i64 2)))).bind fun r30 =>
  (pv r30.2 (loadA Try.prog 3 r30.2 r30.1)).bind fun r31 =>
  (pv r31.2 (buildA Try.prog 23 [(0, r27.1), (1, r29.1), (2, r31.1)])).bind fun r32 =>
  (allocA Try.prog r32.2 23).bind fun r33 =>
  (stA Try.prog 23 r33.2 r33.1 r32.1).bind fun r34 =>
  (pv r34.2 (loadA Try.prog 23 r34.2 r33.1)).bind fun r35 =>
  (callA E md0 r35.2 7 [r35.1]).bind fun r36 =>
  (pv r36.2 (tupA r36.1 0)).bind fun r37 =>
  (pv r37.2 (tupA r36.1 1)).bind fun r38 =>
  (allocA Try.prog r38.2 25).bind fun r39 =>
  (stA Try.prog 25 r39.2 r39.1 r37.1).bind fun r40 =>
  (pv r40.2 (binA Try.prog .neq 26 r38.1 (.v (Go.Value.int Go.IntKind.i64 0)))).bind fun r41 =>
  (gsel false r41.2 (pv r41.2 (loadA Try.prog 25 r41.2 r39.1)) r41.1).bind fun r42 =>
  (gsel false r42.2 (pv r42.2 (loadA Try.prog 25 r42.2 (get (prune kp_super_Get (prune kp_super_Get t.env)) 1))) r41.1).bind fun r43 =>
  (gsel false r43.2 (pv r43.2 (binA Try.prog .neq 25 r42.1 r43.1)) r41.1).bind fun r44 =>
  (pv r44.2 (pickA r41.1 (.v (Go.Value.bool true)) r44.1)).bind fun r45 =>
  condA r45.1 ((pv r45.2 (buildA Try.prog 23 [])).bind fun r46 =>
  (stA Try.prog 23 r46.2 (get (prune kp_super_Get (prune kp_super_Get (prune kp_super_Get t.env))) 2) r46.1).bind fun r47 =>
  some (.ret, ⟨((3, (.v (Go.Value.int Go.IntKind.i64 22))) :: (45, r45.1) :: (10, r38.1) :: (9, r39.1) :: (8, r33.1) :: (prune kp_super_Get (prune kp_super_Get (prune kp_super_Get (prune kp_super_Get t.env))))), r47.2⟩)) ((pv r45.2 (loadA Try.prog 23 r45.2 r33.1)).bind fun r48 =>
  (stA Try.prog 23 r48.2 (get (prune kp_super_Get (prune kp_super_Get (prune kp_super_Get t.env))) 2) r48.1).bind fun r49 =>
  some (.ret, ⟨((3, (.v (Go.Value.int Go.IntKind.i64 0))) :: (45, r45.1) :: (10, r38.1) :: (9, r39.1) :: (8, r33.1) :: (prune kp_super_Get (prune kp_super_Get (prune kp_super_Get (prune kp_super_Get t.env))))), r49.2⟩)) else some (.exit i, ⟨t.env, t.bx⟩)
noncomputable def X_super_Get_0_0 (E : FnA) (_n _n0 : Nat) (x12 x11 x4 x3 x2 x1 x0 : AV) (y : Bx) : Option (Ex × S) :=
  (pv y (indexAddrA Try.prog 59 x4 (.v (Go.Value.int Go.IntKind.i64 0)))).bind fun r74 =>
  (pv r74.2 (loadA Try.prog 3 r74.2 r74.1)).bind fun r75 =>
  (pv r75.2 (indexAddrA Try.prog 59 x4 (.v (Go.Value.int Go.IntKind.i64 1)))).bind fun r76 =>
  (pv r76.2 (loadA Try.prog 3 r76.2 r76.1)).bind fun r77 =>
  (pv r77.2 (indexAddrA Try.prog 59 x4 (.v (Go.Value.int Go.IntKind.i64 2)))).bind fun r78 =>
  (pv r78.2 (loadA Try.prog 3 r78.2 r78.1)).bind fun r79 =>
  (pv r79.2 (buildA Try.prog 23 [(0, r75.1), (1, r77.1), (2, r79.1)])).bind fun r80 =>
  (allocA Try.prog r80.2 23).bind fun r81 =>
  (stA Try.prog 23 r81.2 r81.1 r80.1).bind fun r82 =>
  (pv r82.2 (loadA Try.prog 23 r82.2 r81.1)).bind fun r83 =>
  (callA E md0 r83.2 7 [r83.1]).bind fun r84 =>
  (pv r84.2 (tupA r84.1 0)).bind fun r85 =>
  (pv r85.2 (tupA r84.1 1)).bind fun r86 =>
  (allocA Try.prog r86.2 25).bind fun r87 =>
  (stA Try.prog 25 r87.2 r87.1 r85.1).bind fun r88 =>
  (pv r88.2 (binA Try.prog .neq 26 r86.1 (.v (Go.Value.int Go.IntKind.i64 0)))).bind fun r89 =>
  (gsel false r89.2 (pv r89.2 (loadA Try.prog 25 r89.2 r87.1)) r89.1).bind fun r90 =>
  (gsel false r90.2 (pv r90.2 (loadA Try.prog 25 r90.2 x1)) r89.1).bind fun r91 =>
  (gsel false r91.2 (pv r91.2 (binA Try.prog .neq 25 r90.1 r91.1)) r89.1).bind fun r92 =>
  (pv r92.2 (pickA r89.1 (.v (Go.Value.bool true)) r92.1)).bind fun r93 =>
  condA r93.1 ((pv r93.2 (buildA Try.prog 23 [])).bind fun r94 =>
  (stA Try.prog 23 r94.2 x2 r94.1).bind fun r95 =>
  some (.ret, ⟨[(3, (.v (Go.Value.int Go.IntKind.i64 22))), (45, r93.1), (10, r86.1), (9, r87.1), (8, r81.1), (12, x12), (11, x11), (4, x4), (3, x3), (2, x2), (1, x1), (0, x0)], r95.2⟩)) ((pv r93.2 (loadA Try.prog 23 r93.2 r81.1)).bind fun r96 =>
  (stA Try.prog 23 r96.2 x2 r96.1).bind fun r97 =>
  some (.ret, ⟨[(3, (.v (Go.Value.int Go.IntKind.i64 0))), (45, r93.1), (10, r86.1), (9, r87.1), (8, r81.1), (12, x12), (11, x11), (4, x4), (3, x3), (2, x2), (1, x1), (0, x0)], r97.2⟩))
theorem X_super_Get_0_0_lit {E : FnA} {n n0 : Nat} {x12 x11 x4 x3 x2 x1 x0 : AV} {y : Bx} {Q : Ex → S → Prop} (h : Ends (X_super_Get_0_0 E n n0 x12 x11 x4 x3 x2 x1 x0 y) Q) : Ends (X_super_Get_0 E n n0 0 ⟨[(12, x12), (11, x11), (4, x4), (3, x3), (2, x2), (1, x1), (0, x0)], y⟩) Q := by
  rw [show X_super_Get_0 E n n0 0 ⟨[(12, x12), (11, x11), (4, x4), (3, x3), (2, x2), (1, x1), (0, x0)], y⟩ = X_super_Get_0_0 E n n0 x12 x11 x4 x3 x2 x1 x0 y by kernel_rfl]
  exact h
noncomputable def F_super_Get (E : FnA) (n n0 : Nat) (a0 : AV) (bx : Bx) : Option (Ex × S) :=
  (boxA bx a0).bind fun r1 =>
  (allocA Try.prog r1.2 23).bind fun r2 =>
  (allocA Try.prog r2.2 59).bind fun r3 =>
  exitA (iter ⟨[(11, (.v (Go.Value.int Go.IntKind.i64 0))), (4, r3.1), (3, (.v (Go.Value.int Go.IntKind.i64 0))), (2, r2.1), (1, r1.1), (0, a0)], r3.2⟩ (L_super_Get_0 E n n0) n ⟨[(11, (.v (Go.Value.int Go.IntKind.i64 0))), (4, r3.1), (3, (.v (Go.Value.int Go.IntKind.i64 0))), (2, r2.1), (1, r1.1), (0, a0)], r3.2⟩) (K_super_Get_0 E n n0) (X_super_Get_0 E n n0)
theorem c_super_Get_eq : Try.f9.body = some c_super_Get := by kernel_rfl
theorem d_super_Get : drawsOk Try.prog md0 c_super_Get = true := by kernel_rfl
theorem F_super_Get_eq (E : FnA) (n n0 : Nat) (a0 : AV) (bx : Bx) : evK Try.prog md0 E 48 kp_super_Get n n0 c_super_Get ⟨[(0, a0)], bx⟩ (fun s => some (.normal, s)) (fun i s => some (.exit i, s)) = F_super_Get E n n0 a0 bx := by kernel_rfl

theorem E_super_Get (n : Nat) (a0 : AV) (bx : Bx) : evFn cx0 ext0 (n + 1) 9 [a0] bx = fin Try.prog [.cell 2 23, .tmp 3] (F_super_Get (evFn cx0 ext0 n) n bx.length a0 bx) := by
  rw [evFn_eq2 (cx := cx0) (c := c_super_Get) rfl Try.func9 c_super_Get_eq (of_decide_eq_true (by kernel_rfl)) d_super_Get (of_decide_eq_true (by kernel_rfl))]
  exact congrArg (fin Try.prog [.cell 2 23, .tmp 3]) (F_super_Get_eq (evFn cx0 ext0 n) n bx.length a0 bx)

/-- scupper/scupperref08.Get -/
def kp_r08_Get : Option (List Nat) := some [0, 1, 2, 3, 4, 6, 8, 10, 11, 12, 46]
noncomputable def c_r08_Get : Code := Try.f10.body.getD .skip
noncomputable def F_r08_Get (E : FnA) (_n _n0 : Nat) (a0 : AV) (bx : Bx) : Option (Ex × S) :=
  (boxA bx a0).bind fun r1 =>
  (allocA Try.prog r1.2 23).bind fun r2 =>
  (pv r2.2 (sliceA Try.prog r2.2 25 r1.1 none none none)).bind fun r3 =>
  (callA E md0 r3.2 26 [r3.1, (.v (Go.Value.int Go.IntKind.i64 4))]).bind fun r4 =>
  (pv r4.2 (tupA r4.1 0)).bind fun r5 =>
  (pv r5.2 (tupA r4.1 1)).bind fun r6 =>
  (pv r6.2 (sliceA Try.prog r6.2 25 r1.1 none none none)).bind fun r7 =>
  (callA E md0 r7.2 26 [r7.1, (.v (Go.Value.int Go.IntKind.i64 6))]).bind fun r8 =>
  (pv r8.2 (tupA r8.1 0)).bind fun r9 =>
  (pv r9.2 (tupA r8.1 1)).bind fun r10 =>
  (pv r10.2 (sliceA Try.prog r10.2 25 r1.1 none none none)).bind fun r11 =>
  (callA E md0 r11.2 26 [r11.1, (.v (Go.Value.int Go.IntKind.i64 8))]).bind fun r12 =>
  (pv r12.2 (tupA r12.1 0)).bind fun r13 =>
  (pv r13.2 (tupA r12.1 1)).bind fun r14 =>
  (convA Try.prog r14.2 62 3 r5.1).bind fun r15 =>
  (convA Try.prog r15.2 62 3 r9.1).bind fun r16 =>
  (convA Try.prog r16.2 62 3 r13.1).bind fun r17 =>
  (pv r17.2 (buildA Try.prog 23 [(0, r15.1), (1, r16.1), (2, r17.1)])).bind fun r18 =>
  (allocA Try.prog r18.2 23).bind fun r19 =>
  (stA Try.prog 23 r19.2 r19.1 r18.1).bind fun r20 =>
  (pv r20.2 (loadA Try.prog 23 r20.2 r19.1)).bind fun r21 =>
  (callA E md0 r21.2 8 [r21.1]).bind fun r22 =>
  (pv r22.2 (tupA r22.1 0)).bind fun r23 =>
  (pv r23.2 (tupA r22.1 1)).bind fun r24 =>
  (allocA Try.prog r24.2 25).bind fun r25 =>
  (stA Try.prog 25 r25.2 r25.1 r23.1).bind fun r26 =>
  (pv r26.2 (binA Try.prog .neq 26 r24.1 (.v (Go.Value.int Go.IntKind.i64 0)))).bind fun r27 =>
  (gsel false r27.2 (pv r27.2 (loadA Try.prog 25 r27.2 r25.1)) r27.1).bind fun r28 =>
  (gsel false r28.2 (pv r28.2 (loadA Try.prog 25 r28.2 r1.1)) r27.1).bind fun r29 =>
  (gsel false r29.2 (pv r29.2 (binA Try.prog .neq 25 r28.1 r29.1)) r27.1).bind fun r30 =>
  (pv r30.2 (pickA r27.1 (.v (Go.Value.bool true)) r30.1)).bind fun r31 =>
  condA r31.1 ((pv r31.2 (buildA Try.prog 23 [])).bind fun r32 =>
  (stA Try.prog 23 r32.2 r2.1 r32.1).bind fun r33 =>
  some (.ret, ⟨[(3, (.v (Go.Value.int Go.IntKind.i64 22))), (46, r31.1), (12, r24.1), (11, r25.1), (10, r19.1), (8, r13.1), (6, r9.1), (4, r5.1), (3, (.v (Go.Value.int Go.IntKind.i64 0))), (2, r2.1), (1, r1.1), (0, a0)], r33.2⟩)) ((pv r31.2 (loadA Try.prog 23 r31.2 r19.1)).bind fun r34 =>
  (stA Try.prog 23 r34.2 r2.1 r34.1).bind fun r35 =>
  some (.ret, ⟨[(3, (.v (Go.Value.int Go.IntKind.i64 0))), (46, r31.1), (12, r24.1), (11, r25.1), (10, r19.1), (8, r13.1), (6, r9.1), (4, r5.1), (3, (.v (Go.Value.int Go.IntKind.i64 0))), (2, r2.1), (1, r1.1), (0, a0)], r35.2⟩))
theorem c_r08_Get_eq : Try.f10.body = some c_r08_Get := by kernel_rfl
theorem d_r08_Get : drawsOk Try.prog md0 c_r08_Get = true := by kernel_rfl
theorem F_r08_Get_eq (E : FnA) (n n0 : Nat) (a0 : AV) (bx : Bx) : evK Try.prog md0 E 49 kp_r08_Get n n0 c_r08_Get ⟨[(0, a0)], bx⟩ (fun s => some (.normal, s)) (fun i s => some (.exit i, s)) = F_r08_Get E n n0 a0 bx := by kernel_rfl

theorem E_r08_Get (n : Nat) (a0 : AV) (bx : Bx) : evFn cx0 ext0 (n + 1) 10 [a0] bx = fin Try.prog [.cell 2 23, .tmp 3] (F_r08_Get (evFn cx0 ext0 n) n bx.length a0 bx) := by
  rw [evFn_eq2 (cx := cx0) (c := c_r08_Get) rfl Try.func10 c_r08_Get_eq (of_decide_eq_true (by kernel_rfl)) d_r08_Get (of_decide_eq_true (by kernel_rfl))]
  exact congrArg (fin Try.prog [.cell 2 23, .tmp 3]) (F_r08_Get_eq (evFn cx0 ext0 n) n bx.length a0 bx)

/-- scupper/super.Format -/
def kp_super_Format : Option (List Nat) := some [0, 1, 2, 3, 4, 5, 12]
noncomputable def c_super_Format : Code := Try.f11.body.getD .skip
noncomputable def F_super_Format (E : FnA) (_n _n0 : Nat) (a0 : AV) (bx : Bx) : Option (Ex × S) :=
  (boxA bx a0).bind fun r1 =>
  (allocA Try.prog r1.2 32).bind fun r2 =>
  (pv r2.2 (loadA Try.prog 23 r2.2 r1.1)).bind fun r3 =>
  (callA E md0 r3.2 7 [r3.1]).bind fun r4 =>
  (pv r4.2 (tupA r4.1 0)).bind fun r5 =>
  (pv r5.2 (tupA r4.1 1)).bind fun r6 =>
  (allocA Try.prog r6.2 25).bind fun r7 =>
  (stA Try.prog 25 r7.2 r7.1 r5.1).bind fun r8 =>
  (pv r8.2 (binA Try.prog .neq 26 r6.1 (.v (Go.Value.int Go.IntKind.i64 0)))).bind fun r9 =>
  condA r9.1 ((pv r9.2 (buildA Try.prog 32 [])).bind fun r10 =>
  (stA Try.prog 32 r10.2 r2.1 r10.1).bind fun r11 =>
  some (.ret, ⟨[(3, r6.1), (12, r9.1), (5, r6.1), (4, r7.1), (3, (.v (Go.Value.int Go.IntKind.i64 0))), (2, r2.1), (1, r1.1), (0, a0)], r11.2⟩)) ((pv r9.2 (loadA Try.prog 25 r9.2 r7.1)).bind fun r12 =>
  (callA E md0 r12.2 27 [(.v (Go.Value.int Go.IntKind.i64 1)), (.v (Go.Value.int Go.IntKind.u32 1)), r12.1]).bind fun r13 =>
  (pv r13.2 (tupA r13.1 0)).bind fun r14 =>
  (pv r14.2 (tupA r13.1 1)).bind fun r15 =>
  (stA Try.prog 32 r15.2 r2.1 r14.1).bind fun r16 =>
  some (.ret, ⟨[(3, r15.1), (12, r9.1), (5, r6.1), (4, r7.1), (3, (.v (Go.Value.int Go.IntKind.i64 0))), (2, r2.1), (1, r1.1), (0, a0)], r16.2⟩))
theorem c_super_Format_eq : Try.f11.body = some c_super_Format := by kernel_rfl
theorem d_super_Format : drawsOk Try.prog md0 c_super_Format = true := by kernel_rfl
theorem F_super_Format_eq (E : FnA) (n n0 : Nat) (a0 : AV) (bx : Bx) : evK Try.prog md0 E 19 kp_super_Format n n0 c_super_Format ⟨[(0, a0)], bx⟩ (fun s => some (.normal, s)) (fun i s => some (.exit i, s)) = F_super_Format E n n0 a0 bx := by kernel_rfl

theorem E_super_Format (n : Nat) (a0 : AV) (bx : Bx) : evFn cx0 ext0 (n + 1) 11 [a0] bx = fin Try.prog [.cell 2 32, .tmp 3] (F_super_Format (evFn cx0 ext0 n) n bx.length a0 bx) := by
  rw [evFn_eq2 (cx := cx0) (c := c_super_Format) rfl Try.func11 c_super_Format_eq (of_decide_eq_true (by kernel_rfl)) d_super_Format (of_decide_eq_true (by kernel_rfl))]
  exact congrArg (fin Try.prog [.cell 2 32, .tmp 3]) (F_super_Format_eq (evFn cx0 ext0 n) n bx.length a0 bx)

/-- scupper/scupperref07.Put -/
def kp_r07_Put : Option (List Nat) := some [0, 1, 2, 5, 6, 7, 8, 11]
noncomputable def c_r07_Put : Code := Try.f12.body.getD .skip
noncomputable def F_r07_Put (E : FnA) (_n n0 : Nat) (a0 a1 a2 : AV) (bx : Bx) : Option (Ex × S) :=
  (boxA bx a2).bind fun r1 =>
  (allocA Try.prog r1.2 32).bind fun r2 =>
  (callA E md0 r2.2 28 [a0]).bind fun r3 =>
  (pv r3.2 (unA .not r3.1)).bind fun r4 =>
  condA r4.1 ((pv r4.2 (buildA Try.prog 32 [])).bind fun r5 =>
  (stA Try.prog 32 r5.2 r2.1 r5.1).bind fun r6 =>
  some (.ret, ⟨[(7, (.v (Go.Value.int Go.IntKind.i64 2))), (11, r4.1), (7, (.v (Go.Value.int Go.IntKind.i64 0))), (6, r2.1), (5, r1.1), (0, a0), (1, a1), (2, a2)], r6.2⟩)) ((buildSliceA Try.prog r4.2 58 0 []).bind fun r7 =>
  (pv r7.2 (sliceA Try.prog r7.2 25 r1.1 none none none)).bind fun r8 =>
  (appA Try.prog n0 r8.2 58 r7.1 r8.1).bind fun r9 =>
  (convA Try.prog r9.2.2 3 5 (r9.2.1 a0)).bind fun r10 =>
  (pv r10.2 (binA Try.prog .sub 3 (.v (Go.Value.int Go.IntKind.i64 255)) (r9.2.1 a0))).bind fun r11 =>
  (convA Try.prog r11.2 3 5 r11.1).bind fun r12 =>
  (buildSliceA Try.prog r12.2 58 2 [(0, r10.1), (1, r12.1)]).bind fun r13 =>
  (appA Try.prog n0 r13.2 58 r9.1 r13.1).bind fun r14 =>
  (callA E md0 r14.2.2 29 [(r14.2.1 (r9.2.1 a1))]).bind fun r15 =>
  (appA Try.prog n0 r15.2 58 r14.1 r15.1).bind fun r16 =>
  (callA E md0 r16.2.2 30 [r16.1]).bind fun r17 =>
  (callA E md0 r17.2 29 [r17.1]).bind fun r18 =>
  (appA Try.prog n0 r18.2 58 r16.1 r18.1).bind fun r19 =>
  (pv r19.2.2 (arrPtrA Try.prog 32 r19.1)).bind fun r20 =>
  (pv r20.2 (loadA Try.prog 32 r20.2 r20.1)).bind fun r21 =>
  (stA Try.prog 32 r21.2 (r19.2.1 (r16.2.1 (r14.2.1 (r9.2.1 r2.1)))) r21.1).bind fun r22 =>
  some (.ret, ⟨[(7, (.v (Go.Value.int Go.IntKind.i64 0))), (8, r19.1), (8, (r19.2.1 r16.1)), (8, (r19.2.1 (r16.2.1 r14.1))), (11, (r19.2.1 (r16.2.1 (r14.2.1 (r9.2.1 r4.1))))), (7, (r19.2.1 (r16.2.1 (r14.2.1 (r9.2.1 (.v (Go.Value.int Go.IntKind.i64 0))))))), (6, (r19.2.1 (r16.2.1 (r14.2.1 (r9.2.1 r2.1))))), (5, (r19.2.1 (r16.2.1 (r14.2.1 (r9.2.1 r1.1))))), (0, (r19.2.1 (r16.2.1 (r14.2.1 (r9.2.1 a0))))), (1, (r19.2.1 (r16.2.1 (r14.2.1 (r9.2.1 a1))))), (2, (r19.2.1 (r16.2.1 (r14.2.1 (r9.2.1 a2)))))], r22.2⟩))
theorem c_r07_Put_eq : Try.f12.body = some c_r07_Put := by kernel_rfl
theorem d_r07_Put : drawsOk Try.prog md0 c_r07_Put = true := by kernel_rfl
theorem F_r07_Put_eq (E : FnA) (n n0 : Nat) (a0 a1 a2 : AV) (bx : Bx) : evK Try.prog md0 E 35 kp_r07_Put n n0 c_r07_Put ⟨[(0, a0), (1, a1), (2, a2)], bx⟩ (fun s => some (.normal, s)) (fun i s => some (.exit i, s)) = F_r07_Put E n n0 a0 a1 a2 bx := by kernel_rfl

theorem E_r07_Put (n : Nat) (a0 a1 a2 : AV) (bx : Bx) : evFn cx0 ext0 (n + 1) 12 [a0, a1, a2] bx = fin Try.prog [.cell 6 32, .tmp 7] (F_r07_Put (evFn cx0 ext0 n) n bx.length a0 a1 a2 bx) := by
  rw [evFn_eq2 (cx := cx0) (c := c_r07_Put) rfl Try.func12 c_r07_Put_eq (of_decide_eq_true (by kernel_rfl)) d_r07_Put (of_decide_eq_true (by kernel_rfl))]
  exact congrArg (fin Try.prog [.cell 6 32, .tmp 7]) (F_r07_Put_eq (evFn cx0 ext0 n) n bx.length a0 a1 a2 bx)

/-- scupper/scupperlaw08.works -/
def kp_l08_works : Option (List Nat) := some [0, 1, 2, 3, 4, 5, 8]
noncomputable def c_l08_works : Code := Try.f13.body.getD .skip
noncomputable def F_l08_works (E : FnA) (_n _n0 : Nat) (bx : Bx) : Option (Ex × S) :=
  (pv bx (buildA Try.prog 23 [(0, (.v (Go.Value.int Go.IntKind.i64 1))), (1, (.v (Go.Value.int Go.IntKind.i64 1))), (2, (.v (Go.Value.int Go.IntKind.i64 4)))])).bind fun r1 =>
  (allocA Try.prog r1.2 23).bind fun r2 =>
  (stA Try.prog 23 r2.2 r2.1 r1.1).bind fun r3 =>
  (pv r3.2 (loadA Try.prog 23 r3.2 r2.1)).bind fun r4 =>
  (callA E md0 r4.2 7 [r4.1]).bind fun r5 =>
  (pv r5.2 (tupA r5.1 0)).bind fun r6 =>
  (pv r6.2 (tupA r5.1 1)).bind fun r7 =>
  (allocA Try.prog r7.2 25).bind fun r8 =>
  (stA Try.prog 25 r8.2 r8.1 r6.1).bind fun r9 =>
  (pv r9.2 (loadA Try.prog 25 r9.2 r8.1)).bind fun r10 =>
  (callA E md0 r10.2 9 [r10.1]).bind fun r11 =>
  (pv r11.2 (tupA r11.1 0)).bind fun r12 =>
  (pv r12.2 (tupA r11.1 1)).bind fun r13 =>
  (allocA Try.prog r13.2 23).bind fun r14 =>
  (stA Try.prog 23 r14.2 r14.1 r12.1).bind fun r15 =>
  (makeSliceA Try.prog r15.2 39 (.v (Go.Value.int Go.IntKind.i64 9)) (.v (Go.Value.int Go.IntKind.i64 9))).bind fun r16 =>
  (callA E md0 r16.2 15 [r16.1]).bind fun r17 =>
  (pv r17.2 (tupA r17.1 0)).bind fun r18 =>
  (pv r18.2 (tupA r17.1 1)).bind fun r19 =>
  (pv r19.2 (tupA r17.1 2)).bind fun r20 =>
  (allocA Try.prog r20.2 23).bind fun r21 =>
  (stA Try.prog 23 r21.2 r21.1 r18.1).bind fun r22 =>
  (pv r22.2 (binA Try.prog .eql 26 r7.1 (.v (Go.Value.int Go.IntKind.i64 0)))).bind fun r23 =>
  (gsel true r23.2 (some (r13.1, r23.2)) r23.1).bind fun r24 =>
  (gsel true r24.2 (pv r24.2 (binA Try.prog .eql 26 r24.1 (.v (Go.Value.int Go.IntKind.i64 0)))) r23.1).bind fun r25 =>
  (pv r25.2 (pickA r23.1 r25.1 (.v (Go.Value.bool false)))).bind fun r26 =>
  (gsel true r26.2 (pv r26.2 (loadA Try.prog 23 r26.2 r14.1)) r26.1).bind fun r27 =>
  (gsel true r27.2 (pv r27.2 (loadA Try.prog 23 r27.2 r2.1)) r26.1).bind fun r28 =>
  (gsel true r28.2 (pv r28.2 (binA Try.prog .eql 23 r27.1 r28.1)) r26.1).bind fun r29 =>
  (pv r29.2 (pickA r26.1 r29.1 (.v (Go.Value.bool false)))).bind fun r30 =>
  (gsel true r30.2 (some (r20.1, r30.2)) r30.1).bind fun r31 =>
  (gsel true r31.2 (pv r31.2 (binA Try.prog .eql 26 r31.1 (.v (Go.Value.int Go.IntKind.i64 22)))) r30.1).bind fun r32 =>
  (pv r32.2 (pickA r30.1 r32.1 (.v (Go.Value.bool false)))).bind fun r33 =>
  some (.ret, ⟨[(0, r33.1), (8, r20.1), (5, r13.1), (4, r14.1), (3, r7.1), (2, r8.1), (1, r2.1), (0, (.v (Go.Value.bool false)))], r33.2⟩)
theorem c_l08_works_eq : Try.f13.body = some c_l08_works := by kernel_rfl
theorem d_l08_works : drawsOk Try.prog md0 c_l08_works = true := by kernel_rfl
theorem F_l08_works_eq (E : FnA) (n n0 : Nat) (bx : Bx) : evK Try.prog md0 E 41 kp_l08_works n n0 c_l08_works ⟨[], bx⟩ (fun s => some (.normal, s)) (fun i s => some (.exit i, s)) = F_l08_works E n n0  bx := by kernel_rfl

theorem E_l08_works (n : Nat) (bx : Bx) : evFn cx0 ext0 (n + 1) 13 [] bx = fin Try.prog [.tmp 0] (F_l08_works (evFn cx0 ext0 n) n bx.length  bx) := by
  rw [evFn_eq2 (cx := cx0) (c := c_l08_works) rfl Try.func13 c_l08_works_eq (of_decide_eq_true (by kernel_rfl)) d_l08_works (of_decide_eq_true (by kernel_rfl))]
  exact congrArg (fin Try.prog [.tmp 0]) (F_l08_works_eq (evFn cx0 ext0 n) n bx.length  bx)

/-- scupper/scupperlaw08.few -/
def kp_l08_few : Option (List Nat) := some [0, 2]
noncomputable def c_l08_few : Code := Try.f14.body.getD .skip
noncomputable def F_l08_few (_E : FnA) (_n n0 : Nat) (a0 : AV) (bx : Bx) : Option (Ex × S) :=
  (some (AV.bsl (List.length bx) 0 0 0, bx ++ [[]])).bind fun r1 =>
  (buildSliceA Try.prog r1.2 39 0 []).bind fun r2 =>
  (pv r2.2 (lenA Try.prog 39 a0)).bind fun r3 =>
  (pv r3.2 (minL false r3.1 [(.v (Go.Value.int Go.IntKind.i64 60))])).bind fun r4 =>
  (pv r4.2 (sliceA Try.prog r4.2 39 a0 none (some r4.1) none)).bind fun r5 =>
  (appA Try.prog n0 r5.2 39 r2.1 r5.1).bind fun r6 =>
  some (.ret, ⟨[(2, r6.1), (2, (r6.2.1 r1.1)), (0, (r6.2.1 a0))], r6.2.2⟩)
theorem c_l08_few_eq : Try.f14.body = some c_l08_few := by kernel_rfl
theorem d_l08_few : drawsOk Try.prog md0 c_l08_few = true := by kernel_rfl
theorem F_l08_few_eq (E : FnA) (n n0 : Nat) (a0 : AV) (bx : Bx) : evK Try.prog md0 E 10 kp_l08_few n n0 c_l08_few ⟨[(0, a0)], bx⟩ (fun s => some (.normal, s)) (fun i s => some (.exit i, s)) = F_l08_few E n n0 a0 bx := by kernel_rfl

theorem E_l08_few (n : Nat) (a0 : AV) (bx : Bx) : evFn cx0 ext0 (n + 1) 14 [a0] bx = fin Try.prog [.tmp 2] (F_l08_few (evFn cx0 ext0 n) n bx.length a0 bx) := by
  rw [evFn_eq2 (cx := cx0) (c := c_l08_few) rfl Try.func14 c_l08_few_eq (of_decide_eq_true (by kernel_rfl)) d_l08_few (of_decide_eq_true (by kernel_rfl))]
  exact congrArg (fin Try.prog [.tmp 2]) (F_l08_few_eq (evFn cx0 ext0 n) n bx.length a0 bx)

/-- scupper/super.Find -/
def kp_super_Find : Option (List Nat) := some [0, 2, 3, 4, 5, 6, 7, 9, 10, 11, 14, 17, 18, 19, 20, 31, 45]
noncomputable def c_super_Find : Code := Try.f15.body.getD .skip
noncomputable def L_super_Find_0 (E : FnA) (_n _n0 : Nat) (s : S) : Option (Ex × S) :=
  (pv s.bx (binA Try.prog .lss 3 (get s.env 19) (get s.env 18))).bind fun r38 =>
  condA r38.1 ((pv r38.2 (indexAddrA Try.prog 39 (get (prune kp_super_Find s.env) 17) (get (prune kp_super_Find s.env) 19))).bind fun r39 =>
  (pv r39.2 (loadA Try.prog 32 r39.2 r39.1)).bind fun r40 =>
  (allocA Try.prog r40.2 32).bind fun r41 =>
  (stA Try.prog 32 r41.2 r41.1 r40.1).bind fun r42 =>
  (pv r42.2 (loadA Try.prog 32 r42.2 r41.1)).bind fun r43 =>
  (callA E md0 r43.2 31 [(.v (Go.Value.int Go.IntKind.i64 1)), r43.1]).bind fun r44 =>
  (pv r44.2 (tupA r44.1 0)).bind fun r45 =>
  (pv r45.2 (tupA r44.1 1)).bind fun r46 =>
  (pv r46.2 (tupA r44.1 2)).bind fun r47 =>
  (allocA Try.prog r47.2 25).bind fun r48 =>
  (stA Try.prog 25 r48.2 r48.1 r45.1).bind fun r49 =>
  (pv r49.2 (binA Try.prog .neq 26 r47.1 (.v (Go.Value.int Go.IntKind.i64 0)))).bind fun r50 =>
  condA r50.1 ((pv r50.2 (binA Try.prog .add 3 (get (prune kp_super_Find (prune kp_super_Find (prune kp_super_Find (prune kp_super_Find s.env)))) 19) (.v (Go.Value.int Go.IntKind.i64 1)))).bind fun r51 =>
  some (.normal, ⟨((19, r51.1) :: (31, r50.1) :: (9, r47.1) :: (7, r48.1) :: (5, (get (prune kp_super_Find s.env) 19)) :: (6, r41.1) :: (20, r38.1) :: (prune kp_super_Find (prune kp_super_Find (prune kp_super_Find (prune kp_super_Find (prune kp_super_Find s.env)))))), r51.2⟩)) ((pv r50.2 (loadA Try.prog 25 r50.2 r48.1)).bind fun r52 =>
  (callA E md0 r52.2 9 [r52.1]).bind fun r53 =>
  (pv r53.2 (tupA r53.1 0)).bind fun r54 =>
  (pv r54.2 (tupA r53.1 1)).bind fun r55 =>
  (allocA Try.prog r55.2 23).bind fun r56 =>
  (stA Try.prog 23 r56.2 r56.1 r54.1).bind fun r57 =>
  (pv r57.2 (binA Try.prog .eql 26 r55.1 (.v (Go.Value.int Go.IntKind.i64 0)))).bind fun r58 =>
  (gsel true r58.2 (pv r58.2 (loadA Try.prog 23 r58.2 r56.1)) r58.1).bind fun r59 =>
  (gsel true r59.2 (callA E md0 r59.2 20 [r59.1]) r58.1).bind fun r60 =>
  (gsel true r60.2 (some ((get (prune kp_super_Find (prune kp_super_Find (prune kp_super_Find (prune kp_super_Find (prune kp_super_Find s.env))))) 0), r60.2)) r58.1).bind fun r61 =>
  (gsel true r61.2 (pv r61.2 (lenA Try.prog 39 r61.1)) r58.1).bind fun r62 =>
  (gsel true r62.2 (pv r62.2 (binA Try.prog .eql 3 r60.1 r62.1)) r58.1).bind fun r63 =>
  (pv r63.2 (pickA r58.1 r63.1 (.v (Go.Value.bool false)))).bind fun r64 =>
  condA r64.1 ((pv r64.2 (loadA Try.prog 23 r64.2 r56.1)).bind fun r65 =>
  (stA Try.prog 23 r65.2 (get (prune kp_super_Find (prune kp_super_Find (prune kp_super_Find (prune kp_super_Find (prune kp_super_Find (prune kp_super_Find s.env)))))) 2) r65.1).bind fun r66 =>
  some (.ret, ⟨((4, r55.1) :: (3, (get (prune kp_super_Find s.env) 19)) :: (45, r64.1) :: (11, r55.1) :: (10, r56.1) :: (31, r50.1) :: (9, r47.1) :: (7, r48.1) :: (5, (get (prune kp_super_Find s.env) 19)) :: (6, r41.1) :: (20, r38.1) :: (prune kp_super_Find (prune kp_super_Find (prune kp_super_Find (prune kp_super_Find (prune kp_super_Find (prune kp_super_Find (prune kp_super_Find s.env)))))))), r66.2⟩)) ((pv r64.2 (binA Try.prog .add 3 (get (prune kp_super_Find (prune kp_super_Find (prune kp_super_Find (prune kp_super_Find (prune kp_super_Find (prune kp_super_Find s.env)))))) 19) (.v (Go.Value.int Go.IntKind.i64 1)))).bind fun r67 =>
  some (.normal, ⟨((19, r67.1) :: (45, r64.1) :: (11, r55.1) :: (10, r56.1) :: (31, r50.1) :: (9, r47.1) :: (7, r48.1) :: (5, (get (prune kp_super_Find s.env) 19)) :: (6, r41.1) :: (20, r38.1) :: (prune kp_super_Find (prune kp_super_Find (prune kp_super_Find (prune kp_super_Find (prune kp_super_Find (prune kp_super_Find (prune kp_super_Find s.env)))))))), r67.2⟩)))) (some (.exit 0, ⟨((20, r38.1) :: (prune kp_super_Find s.env)), r38.2⟩))
noncomputable def B_super_Find_0 (E : FnA) (_n _n0 : Nat) (x19 x18 x17 x14 x4 x3 x2 x0 : AV) (y : Bx) : Option (Ex × S) :=
  (pv y (binA Try.prog .lss 3 x19 x18)).bind fun r8 =>
  condA r8.1 ((pv r8.2 (indexAddrA Try.prog 39 x17 x19)).bind fun r9 =>
  (pv r9.2 (loadA Try.prog 32 r9.2 r9.1)).bind fun r10 =>
  (allocA Try.prog r10.2 32).bind fun r11 =>
  (stA Try.prog 32 r11.2 r11.1 r10.1).bind fun r12 =>
  (pv r12.2 (loadA Try.prog 32 r12.2 r11.1)).bind fun r13 =>
  (callA E md0 r13.2 31 [(.v (Go.Value.int Go.IntKind.i64 1)), r13.1]).bind fun r14 =>
  (pv r14.2 (tupA r14.1 0)).bind fun r15 =>
  (pv r15.2 (tupA r14.1 1)).bind fun r16 =>
  (pv r16.2 (tupA r14.1 2)).bind fun r17 =>
  (allocA Try.prog r17.2 25).bind fun r18 =>
  (stA Try.prog 25 r18.2 r18.1 r15.1).bind fun r19 =>
  (pv r19.2 (binA Try.prog .neq 26 r17.1 (.v (Go.Value.int Go.IntKind.i64 0)))).bind fun r20 =>
  condA r20.1 ((pv r20.2 (binA Try.prog .add 3 x19 (.v (Go.Value.int Go.IntKind.i64 1)))).bind fun r21 =>
  some (.normal, ⟨[(19, r21.1), (31, r20.1), (9, r17.1), (7, r18.1), (5, x19), (6, r11.1), (20, r8.1), (19, x19), (18, x18), (17, x17), (14, x14), (4, x4), (3, x3), (2, x2), (0, x0)], r21.2⟩)) ((pv r20.2 (loadA Try.prog 25 r20.2 r18.1)).bind fun r22 =>
  (callA E md0 r22.2 9 [r22.1]).bind fun r23 =>
  (pv r23.2 (tupA r23.1 0)).bind fun r24 =>
  (pv r24.2 (tupA r23.1 1)).bind fun r25 =>
  (allocA Try.prog r25.2 23).bind fun r26 =>
  (stA Try.prog 23 r26.2 r26.1 r24.1).bind fun r27 =>
  (pv r27.2 (binA Try.prog .eql 26 r25.1 (.v (Go.Value.int Go.IntKind.i64 0)))).bind fun r28 =>
  (gsel true r28.2 (pv r28.2 (loadA Try.prog 23 r28.2 r26.1)) r28.1).bind fun r29 =>
  (gsel true r29.2 (callA E md0 r29.2 20 [r29.1]) r28.1).bind fun r30 =>
  (gsel true r30.2 (some (x0, r30.2)) r28.1).bind fun r31 =>
  (gsel true r31.2 (pv r31.2 (lenA Try.prog 39 r31.1)) r28.1).bind fun r32 =>
  (gsel true r32.2 (pv r32.2 (binA Try.prog .eql 3 r30.1 r32.1)) r28.1).bind fun r33 =>
  (pv r33.2 (pickA r28.1 r33.1 (.v (Go.Value.bool false)))).bind fun r34 =>
  condA r34.1 ((pv r34.2 (loadA Try.prog 23 r34.2 r26.1)).bind fun r35 =>
  (stA Try.prog 23 r35.2 x2 r35.1).bind fun r36 =>
  some (.ret, ⟨[(4, r25.1), (3, x19), (45, r34.1), (11, r25.1), (10, r26.1), (31, r20.1), (9, r17.1), (7, r18.1), (5, x19), (6, r11.1), (20, r8.1), (19, x19), (18, x18), (17, x17), (14, x14), (4, x4), (3, x3), (2, x2), (0, x0)], r36.2⟩)) ((pv r34.2 (binA Try.prog .add 3 x19 (.v (Go.Value.int Go.IntKind.i64 1)))).bind fun r37 =>
  some (.normal, ⟨[(19, r37.1), (45, r34.1), (11, r25.1), (10, r26.1), (31, r20.1), (9, r17.1), (7, r18.1), (5, x19), (6, r11.1), (20, r8.1), (19, x19), (18, x18), (17, x17), (14, x14), (4, x4), (3, x3), (2, x2), (0, x0)], r37.2⟩)))) (some (.exit 0, ⟨[(20, r8.1), (19, x19), (18, x18), (17, x17), (14, x14), (4, x4), (3, x3), (2, x2), (0, x0)], r8.2⟩))
theorem L_super_Find_0_lit {E : FnA} {n n0 : Nat} {x19 x18 x17 x14 x4 x3 x2 x0 : AV} {y : Bx} {Q : Ex → S → Prop} (h : Ends (B_super_Find_0 E n n0 x19 x18 x17 x14 x4 x3 x2 x0 y) Q) : Ends (L_super_Find_0 E n n0 ⟨[(19, x19), (18, x18), (17, x17), (14, x14), (4, x4), (3, x3), (2, x2), (0, x0)], y⟩) Q := by
  rw [show L_super_Find_0 E n n0 ⟨[(19, x19), (18, x18), (17, x17), (14, x14), (4, x4), (3, x3), (2, x2), (0, x0)], y⟩ = B_super_Find_0 E n n0 x19 x18 x17 x14 x4 x3 x2 x0 y by kernel_rfl]
  exact h
noncomputable def K_super_Find_0 (_E : FnA) (_n _n0 : Nat) (t : S) : Option (Ex × S) :=
  (pv t.bx (buildA Try.prog 23 [])).bind fun r70 =>
  (stA Try.prog 23 r70.2 (get t.env 2) r70.1).bind fun r71 =>
  some (.ret, ⟨((4, (.v (Go.Value.int Go.IntKind.i64 22))) :: (3, (.v (Go.Value.int Go.IntKind.i64 0))) :: (prune kp_super_Find t.env)), r71.2⟩)
noncomputable def X_super_Find_0 (_E : FnA) (_n _n0 : Nat) (i : Nat) (t : S) : Option (Ex × S) :=
  if i = 0 then (pv t.bx (buildA Try.prog 23 [])).bind fun r68 =>
  (stA Try.prog 23 r68.2 (get t.env 2) r68.1).bind fun r69 =>
  some (.ret, ⟨((4, (.v (Go.Value.int Go.IntKind.i64 22))) :: (3, (.v (Go.Value.int Go.IntKind.i64 0))) :: (prune kp_super_Find t.env)), r69.2⟩) else some (.exit i, ⟨t.env, t.bx⟩)
noncomputable def X_super_Find_0_0 (_E : FnA) (_n _n0 : Nat) (x20 x19 x18 x17 x14 x4 x3 x2 x0 : AV) (y : Bx) : Option (Ex × S) :=
  (pv y (buildA Try.prog 23 [])).bind fun r72 =>
  (stA Try.prog 23 r72.2 x2 r72.1).bind fun r73 =>
  some (.ret, ⟨[(4, (.v (Go.Value.int Go.IntKind.i64 22))), (3, (.v (Go.Value.int Go.IntKind.i64 0))), (20, x20), (19, x19), (18, x18), (17, x17), (14, x14), (4, x4), (3, x3), (2, x2), (0, x0)], r73.2⟩)
theorem X_super_Find_0_0_lit {E : FnA} {n n0 : Nat} {x20 x19 x18 x17 x14 x4 x3 x2 x0 : AV} {y : Bx} {Q : Ex → S → Prop} (h : Ends (X_super_Find_0_0 E n n0 x20 x19 x18 x17 x14 x4 x3 x2 x0 y) Q) : Ends (X_super_Find_0 E n n0 0 ⟨[(20, x20), (19, x19), (18, x18), (17, x17), (14, x14), (4, x4), (3, x3), (2, x2), (0, x0)], y⟩) Q := by
  rw [show X_super_Find_0 E n n0 0 ⟨[(20, x20), (19, x19), (18, x18), (17, x17), (14, x14), (4, x4), (3, x3), (2, x2), (0, x0)], y⟩ = X_super_Find_0_0 E n n0 x20 x19 x18 x17 x14 x4 x3 x2 x0 y by kernel_rfl]
  exact h
noncomputable def F_super_Find (E : FnA) (n n0 : Nat) (a0 : AV) (bx : Bx) : Option (Ex × S) :=
  (allocA Try.prog bx 23).bind fun r1 =>
  (pv r1.2 (lenA Try.prog 39 a0)).bind fun r2 =>
  (pv r2.2 (binA Try.prog .lss 3 r2.1 (.v (Go.Value.int Go.IntKind.i64 2)))).bind fun r3 =>
  condA r3.1 ((pv r3.2 (buildA Try.prog 23 [])).bind fun r4 =>
  (stA Try.prog 23 r4.2 r1.1 r4.1).bind fun r5 =>
  some (.ret, ⟨[(4, (.v (Go.Value.int Go.IntKind.i64 22))), (3, (.v (Go.Value.int Go.IntKind.i64 0))), (14, r3.1), (4, (.v (Go.Value.int Go.IntKind.i64 0))), (3, (.v (Go.Value.int Go.IntKind.i64 0))), (2, r1.1), (0, a0)], r5.2⟩)) ((pv r3.2 (sliceA Try.prog r3.2 39 a0 none (some (.v (Go.Value.int Go.IntKind.i64 2))) none)).bind fun r6 =>
  (pv r6.2 (lenA Try.prog 39 r6.1)).bind fun r7 =>
  exitA (iter ⟨[(19, (.v (Go.Value.int Go.IntKind.i64 0))), (18, r7.1), (17, r6.1), (14, r3.1), (4, (.v (Go.Value.int Go.IntKind.i64 0))), (3, (.v (Go.Value.int Go.IntKind.i64 0))), (2, r1.1), (0, a0)], r7.2⟩ (L_super_Find_0 E n n0) n ⟨[(19, (.v (Go.Value.int Go.IntKind.i64 0))), (18, r7.1), (17, r6.1), (14, r3.1), (4, (.v (Go.Value.int Go.IntKind.i64 0))), (3, (.v (Go.Value.int Go.IntKind.i64 0))), (2, r1.1), (0, a0)], r7.2⟩) (K_super_Find_0 E n n0) (X_super_Find_0 E n n0))
theorem c_super_Find_eq : Try.f15.body = some c_super_Find := by kernel_rfl
theorem d_super_Find : drawsOk Try.prog md0 c_super_Find = true := by kernel_rfl
theorem F_super_Find_eq (E : FnA) (n n0 : Nat) (a0 : AV) (bx : Bx) : evK Try.prog md0 E 51 kp_super_Find n n0 c_super_Find ⟨[(0, a0)], bx⟩ (fun s => some (.normal, s)) (fun i s => some (.exit i, s)) = F_super_Find E n n0 a0 bx := by kernel_rfl

theorem E_super_Find (n : Nat) (a0 : AV) (bx : Bx) : evFn cx0 ext0 (n + 1) 15 [a0] bx = fin Try.prog [.cell 2 23, .tmp 3, .tmp 4] (F_super_Find (evFn cx0 ext0 n) n bx.length a0 bx) := by
  rw [evFn_eq2 (cx := cx0) (c := c_super_Find) rfl Try.func15 c_super_Find_eq (of_decide_eq_true (by kernel_rfl)) d_super_Find (of_decide_eq_true (by kernel_rfl))]
  exact congrArg (fin Try.prog [.cell 2 23, .tmp 3, .tmp 4]) (F_super_Find_eq (evFn cx0 ext0 n) n bx.length a0 bx)

/-- scupper/scupperref08.Find -/
def kp_r08_Find : Option (List Nat) := some [0, 2, 3, 4, 5, 6, 7, 14, 27]
noncomputable def c_r08_Find : Code := Try.f16.body.getD .skip
noncomputable def L_r08_Find_0 (E : FnA) (_n _n0 : Nat) (s : S) : Option (Ex × S) :=
  (pv s.bx (binA Try.prog .lss 3 (get s.env 5) (.v (Go.Value.int Go.IntKind.i64 2)))).bind fun r18 =>
  (gsel true r18.2 (some ((get s.env 0), r18.2)) r18.1).bind fun r19 =>
  (gsel true r19.2 (pv r19.2 (lenA Try.prog 39 r19.1)) r18.1).bind fun r20 =>
  (gsel true r20.2 (pv r20.2 (binA Try.prog .gtr 3 r20.1 (.v (Go.Value.int Go.IntKind.i64 1)))) r18.1).bind fun r21 =>
  (pv r21.2 (pickA r18.1 r21.1 (.v (Go.Value.bool false)))).bind fun r22 =>
  condA r22.1 ((pv r22.2 (indexAddrA Try.prog 39 (get (prune kp_r08_Find s.env) 0) (get (prune kp_r08_Find s.env) 5))).bind fun r23 =>
  (pv r23.2 (loadA Try.prog 32 r23.2 r23.1)).bind fun r24 =>
  (pv r24.2 (lenA Try.prog 39 (get (prune kp_r08_Find s.env) 0))).bind fun r25 =>
  (callA E md0 r25.2 32 [r24.1, r25.1]).bind fun r26 =>
  (pv r26.2 (tupA r26.1 0)).bind fun r27 =>
  (pv r27.2 (tupA r26.1 1)).bind fun r28 =>
  (allocA Try.prog r28.2 23).bind fun r29 =>
  (stA Try.prog 23 r29.2 r29.1 r27.1).bind fun r30 =>
  condA r28.1 ((pv r30.2 (loadA Try.prog 23 r30.2 r29.1)).bind fun r31 =>
  (stA Try.prog 23 r31.2 (get (prune kp_r08_Find (prune kp_r08_Find (prune kp_r08_Find s.env))) 2) r31.1).bind fun r32 =>
  some (.ret, ⟨((4, (.v (Go.Value.int Go.IntKind.i64 0))) :: (3, (get (prune kp_r08_Find (prune kp_r08_Find (prune kp_r08_Find s.env))) 5)) :: (27, r28.1) :: (7, r28.1) :: (6, r29.1) :: (14, r22.1) :: (prune kp_r08_Find (prune kp_r08_Find (prune kp_r08_Find (prune kp_r08_Find s.env))))), r32.2⟩)) ((pv r30.2 (binA Try.prog .add 3 (get (prune kp_r08_Find (prune kp_r08_Find (prune kp_r08_Find s.env))) 5) (.v (Go.Value.int Go.IntKind.i64 1)))).bind fun r33 =>
  some (.normal, ⟨((5, r33.1) :: (27, r28.1) :: (7, r28.1) :: (6, r29.1) :: (14, r22.1) :: (prune kp_r08_Find (prune kp_r08_Find (prune kp_r08_Find (prune kp_r08_Find s.env))))), r33.2⟩))) (some (.exit 0, ⟨((14, r22.1) :: (prune kp_r08_Find s.env)), r22.2⟩))
noncomputable def B_r08_Find_0 (E : FnA) (_n _n0 : Nat) (x5 x4 x3 x2 x0 : AV) (y : Bx) : Option (Ex × S) :=
  (pv y (binA Try.prog .lss 3 x5 (.v (Go.Value.int Go.IntKind.i64 2)))).bind fun r2 =>
  (gsel true r2.2 (some (x0, r2.2)) r2.1).bind fun r3 =>
  (gsel true r3.2 (pv r3.2 (lenA Try.prog 39 r3.1)) r2.1).bind fun r4 =>
  (gsel true r4.2 (pv r4.2 (binA Try.prog .gtr 3 r4.1 (.v (Go.Value.int Go.IntKind.i64 1)))) r2.1).bind fun r5 =>
  (pv r5.2 (pickA r2.1 r5.1 (.v (Go.Value.bool false)))).bind fun r6 =>
  condA r6.1 ((pv r6.2 (indexAddrA Try.prog 39 x0 x5)).bind fun r7 =>
  (pv r7.2 (loadA Try.prog 32 r7.2 r7.1)).bind fun r8 =>
  (pv r8.2 (lenA Try.prog 39 x0)).bind fun r9 =>
  (callA E md0 r9.2 32 [r8.1, r9.1]).bind fun r10 =>
  (pv r10.2 (tupA r10.1 0)).bind fun r11 =>
  (pv r11.2 (tupA r10.1 1)).bind fun r12 =>
  (allocA Try.prog r12.2 23).bind fun r13 =>
  (stA Try.prog 23 r13.2 r13.1 r11.1).bind fun r14 =>
  condA r12.1 ((pv r14.2 (loadA Try.prog 23 r14.2 r13.1)).bind fun r15 =>
  (stA Try.prog 23 r15.2 x2 r15.1).bind fun r16 =>
  some (.ret, ⟨[(4, (.v (Go.Value.int Go.IntKind.i64 0))), (3, x5), (27, r12.1), (7, r12.1), (6, r13.1), (14, r6.1), (5, x5), (4, x4), (3, x3), (2, x2), (0, x0)], r16.2⟩)) ((pv r14.2 (binA Try.prog .add 3 x5 (.v (Go.Value.int Go.IntKind.i64 1)))).bind fun r17 =>
  some (.normal, ⟨[(5, r17.1), (27, r12.1), (7, r12.1), (6, r13.1), (14, r6.1), (5, x5), (4, x4), (3, x3), (2, x2), (0, x0)], r17.2⟩))) (some (.exit 0, ⟨[(14, r6.1), (5, x5), (4, x4), (3, x3), (2, x2), (0, x0)], r6.2⟩))
theorem L_r08_Find_0_lit {E : FnA} {n n0 : Nat} {x5 x4 x3 x2 x0 : AV} {y : Bx} {Q : Ex → S → Prop} (h : Ends (B_r08_Find_0 E n n0 x5 x4 x3 x2 x0 y) Q) : Ends (L_r08_Find_0 E n n0 ⟨[(5, x5), (4, x4), (3, x3), (2, x2), (0, x0)], y⟩) Q := by
  rw [show L_r08_Find_0 E n n0 ⟨[(5, x5), (4, x4), (3, x3), (2, x2), (0, x0)], y⟩ = B_r08_Find_0 E n n0 x5 x4 x3 x2 x0 y by kernel_rfl]
  exact h
noncomputable def K_r08_Find_0 (_E : FnA) (_n _n0 : Nat) (t : S) : Option (Ex × S) :=
  (pv t.bx (buildA Try.prog 23 [])).bind fun r36 =>
  (stA Try.prog 23 r36.2 (get t.env 2) r36.1).bind fun r37 =>
  some (.ret, ⟨((4, (.v (Go.Value.int Go.IntKind.i64 22))) :: (3, (.v (Go.Value.int Go.IntKind.i64 0))) :: (prune kp_r08_Find t.env)), r37.2⟩)
noncomputable def X_r08_Find_0 (_E : FnA) (_n _n0 : Nat) (i : Nat) (t : S) : Option (Ex × S) :=
  if i = 0 then (pv t.bx (buildA Try.prog 23 [])).bind fun r34 =>
  (stA Try.prog 23 r34.2 (get t.env 2) r34.1).bind fun r35 =>
  some (.ret, ⟨((4, (.v (Go.Value.int Go.IntKind.i64 22))) :: (3, (.v (Go.Value.int Go.IntKind.i64 0))) :: (prune kp_r08_Find t.env)), r35.2⟩) else some (.exit i, ⟨t.env, t.bx⟩)
noncomputable def X_r08_Find_0_0 (_E : FnA) (_n _n0 : Nat) (x14 x5 x4 x3 x2 x0 : AV) (y : Bx) : Option (Ex × S) :=
  (pv y (buildA Try.prog 23 [])).bind fun r38 =>
  (stA Try.prog 23 r38.2 x2 r38.1).bind fun r39 =>
  some (.ret, ⟨[(4, (.v (Go.Value.int Go.IntKind.i64 22))), (3, (.v (Go.Value.int Go.IntKind.i64 0))), (14, x14), (5, x5), (4, x4), (3, x3), (2, x2), (0, x0)], r39.2⟩)
theorem X_r08_Find_0_0_lit {E : FnA} {n n0 : Nat} {x14 x5 x4 x3 x2 x0 : AV} {y : Bx} {Q : Ex → S → Prop} (h : Ends (X_r08_Find_0_0 E n n0 x14 x5 x4 x3 x2 x0 y) Q) : Ends (X_r08_Find_0 E n n0 0 ⟨[(14, x14), (5, x5), (4, x4), (3, x3), (2, x2), (0, x0)], y⟩) Q := by
  rw [show X_r08_Find_0 E n n0 0 ⟨[(14, x14), (5, x5), (4, x4), (3, x3), (2, x2), (0, x0)], y⟩ = X_r08_Find_0_0 E n n0 x14 x5 x4 x3 x2 x0 y by kernel_rfl]
  exact h
noncomputable def F_r08_Find (E : FnA) (n n0 : Nat) (a0 : AV) (bx : Bx) : Option (Ex × S) :=
  (allocA Try.prog bx 23).bind fun r1 =>
  exitA (iter ⟨[(5, (.v (Go.Value.int Go.IntKind.i64 0))), (4, (.v (Go.Value.int Go.IntKind.i64 0))), (3, (.v (Go.Value.int Go.IntKind.i64 0))), (2, r1.1), (0, a0)], r1.2⟩ (L_r08_Find_0 E n n0) n ⟨[(5, (.v (Go.Value.int Go.IntKind.i64 0))), (4, (.v (Go.Value.int Go.IntKind.i64 0))), (3, (.v (Go.Value.int Go.IntKind.i64 0))), (2, r1.1), (0, a0)], r1.2⟩) (K_r08_Find_0 E n n0) (X_r08_Find_0 E n n0)
theorem c_r08_Find_eq : Try.f16.body = some c_r08_Find := by kernel_rfl
theorem d_r08_Find : drawsOk Try.prog md0 c_r08_Find = true := by kernel_rfl
theorem F_r08_Find_eq (E : FnA) (n n0 : Nat) (a0 : AV) (bx : Bx) : evK Try.prog md0 E 31 kp_r08_Find n n0 c_r08_Find ⟨[(0, a0)], bx⟩ (fun s => some (.normal, s)) (fun i s => some (.exit i, s)) = F_r08_Find E n n0 a0 bx := by kernel_rfl

theorem E_r08_Find (n : Nat) (a0 : AV) (bx : Bx) : evFn cx0 ext0 (n + 1) 16 [a0] bx = fin Try.prog [.cell 2 23, .tmp 3, .tmp 4] (F_r08_Find (evFn cx0 ext0 n) n bx.length a0 bx) := by
  rw [evFn_eq2 (cx := cx0) (c := c_r08_Find) rfl Try.func16 c_r08_Find_eq (of_decide_eq_true (by kernel_rfl)) d_r08_Find (of_decide_eq_true (by kernel_rfl))]
  exact congrArg (fin Try.prog [.cell 2 23, .tmp 3, .tmp 4]) (F_r08_Find_eq (evFn cx0 ext0 n) n bx.length a0 bx)

/-- scupper/super.Mend -/
def kp_super_Mend : Option (List Nat) := some [0, 2, 3, 4, 6, 7, 9, 10, 11, 12, 14, 22, 31, 32, 33, 34, 50]
noncomputable def c_super_Mend : Code := Try.f17.body.getD .skip
noncomputable def L_super_Mend_0 (E : FnA) (_n _n0 : Nat) (s : S) : Option (Ex × S) :=
  (pv s.bx (binA Try.prog .lss 3 (get s.env 33) (get s.env 32))).bind fun r42 =>
  condA r42.1 ((pv r42.2 (indexAddrA Try.prog 39 (get (prune kp_super_Mend s.env) 31) (get (prune kp_super_Mend s.env) 33))).bind fun r43 =>
  (pv r43.2 (loadA Try.prog 32 r43.2 r43.1)).bind fun r44 =>
  (allocA Try.prog r44.2 32).bind fun r45 =>
  (stA Try.prog 32 r45.2 r45.1 r44.1).bind fun r46 =>
  (pv r46.2 (loadA Try.prog 32 r46.2 r45.1)).bind fun r47 =>
  (callA E md0 r47.2 31 [(.v (Go.Value.int Go.IntKind.i64 1)), r47.1]).bind fun r48 =>
  (pv r48.2 (tupA r48.1 0)).bind fun r49 =>
  (pv r49.2 (tupA r48.1 1)).bind fun r50 =>
  (pv r50.2 (tupA r48.1 2)).bind fun r51 =>
  (allocA Try.prog r51.2 25).bind fun r52 =>
  (stA Try.prog 25 r52.2 r52.1 r49.1).bind fun r53 =>
  (pv r53.2 (binA Try.prog .neq 26 r51.1 (.v (Go.Value.int Go.IntKind.i64 0)))).bind fun r54 =>
  (gsel false r54.2 (pv r54.2 (loadA Try.prog 25 r54.2 r52.1)) r54.1).bind fun r55 =>
  (gsel false r55.2 (pv r55.2 (loadA Try.prog 25 r55.2 (get (prune kp_super_Mend (prune kp_super_Mend (prune kp_super_Mend s.env))) 7))) r54.1).bind fun r56 =>
  (gsel false r56.2 (pv r56.2 (binA Try.prog .neq 25 r55.1 r56.1)) r54.1).bind fun r57 =>
  (pv r57.2 (pickA r54.1 (.v (Go.Value.bool true)) r57.1)).bind fun r58 =>
  condA r58.1 ((pv r58.2 (loadA Try.prog 32 r58.2 r45.1)).bind fun r59 =>
  (pv r59.2 (loadA Try.prog 25 r59.2 (get (prune kp_super_Mend (prune kp_super_Mend (prune kp_super_Mend (prune kp_super_Mend s.env)))) 7))).bind fun r60 =>
  (callA E md0 r60.2 33 [(.v (Go.Value.int Go.IntKind.i64 1)), r59.1, r60.1]).bind fun r61 =>
  (pv r61.2 (tupA r61.1 0)).bind fun r62 =>
  (pv r62.2 (tupA r61.1 1)).bind fun r63 =>
  (upV Try.prog 43 r63.2 (get (prune kp_super_Mend (prune kp_super_Mend (prune kp_super_Mend (prune kp_super_Mend s.env)))) 9) (get (prune kp_super_Mend s.env) 33) r62.1).bind fun r64 =>
  (pv r64.2 (binA Try.prog .add 3 (get (prune kp_super_Mend (prune kp_super_Mend (prune kp_super_Mend (prune kp_super_Mend (prune kp_super_Mend s.env))))) 33) (.v (Go.Value.int Go.IntKind.i64 1)))).bind fun r65 =>
  some (.normal, ⟨((33, r65.1) :: (50, r58.1) :: (14, r51.1) :: (12, r52.1) :: (10, (get (prune kp_super_Mend s.env) 33)) :: (11, r45.1) :: (34, r42.1) :: (prune kp_super_Mend (prune kp_super_Mend (prune kp_super_Mend (prune kp_super_Mend (prune kp_super_Mend (prune kp_super_Mend s.env))))))), r65.2⟩)) ((pv r58.2 (binA Try.prog .add 3 (get (prune kp_super_Mend (prune kp_super_Mend (prune kp_super_Mend (prune kp_super_Mend s.env)))) 33) (.v (Go.Value.int Go.IntKind.i64 1)))).bind fun r66 =>
  some (.normal, ⟨((33, r66.1) :: (50, r58.1) :: (14, r51.1) :: (12, r52.1) :: (10, (get (prune kp_super_Mend s.env) 33)) :: (11, r45.1) :: (34, r42.1) :: (prune kp_super_Mend (prune kp_super_Mend (prune kp_super_Mend (prune kp_super_Mend (prune kp_super_Mend s.env)))))), r66.2⟩))) (some (.exit 0, ⟨((34, r42.1) :: (prune kp_super_Mend s.env)), r42.2⟩))
noncomputable def B_super_Mend_0 (E : FnA) (_n _n0 : Nat) (x33 x32 x31 x9 x7 x22 x6 x4 x3 x2 x0 : AV) (y : Bx) : Option (Ex × S) :=
  (pv y (binA Try.prog .lss 3 x33 x32)).bind fun r17 =>
  condA r17.1 ((pv r17.2 (indexAddrA Try.prog 39 x31 x33)).bind fun r18 =>
  (pv r18.2 (loadA Try.prog 32 r18.2 r18.1)).bind fun r19 =>
  (allocA Try.prog r19.2 32).bind fun r20 =>
  (stA Try.prog 32 r20.2 r20.1 r19.1).bind fun r21 =>
  (pv r21.2 (loadA Try.prog 32 r21.2 r20.1)).bind fun r22 =>
  (callA E md0 r22.2 31 [(.v (Go.Value.int Go.IntKind.i64 1)), r22.1]).bind fun r23 =>
  (pv r23.2 (tupA r23.1 0)).bind fun r24 =>
  (pv r24.2 (tupA r23.1 1)).bind fun r25 =>
  (pv r25.2 (tupA r23.1 2)).bind fun r26 =>
  (allocA Try.prog r26.2 25).bind fun r27 =>
  (stA Try.prog 25 r27.2 r27.1 r24.1).bind fun r28 =>
  (pv r28.2 (binA Try.prog .neq 26 r26.1 (.v (Go.Value.int Go.IntKind.i64 0)))).bind fun r29 =>
  (gsel false r29.2 (pv r29.2 (loadA Try.prog 25 r29.2 r27.1)) r29.1).bind fun r30 =>
  (gsel false r30.2 (pv r30.2 (loadA Try.prog 25 r30.2 x7)) r29.1).bind fun r31 =>
  (gsel false r31.2 (pv r31.2 (binA Try.prog .neq 25 r30.1 r31.1)) r29.1).bind fun r32 =>
  (pv r32.2 (pickA r29.1 (.v (Go.Value.bool true)) r32.1)).bind fun r33 =>
  condA r33.1 ((pv r33.2 (loadA Try.prog 32 r33.2 r20.1)).bind fun r34 =>
  (pv r34.2 (loadA Try.prog 25 r34.2 x7)).bind fun r35 =>
  (callA E md0 r35.2 33 [(.v (Go.Value.int Go.IntKind.i64 1)), r34.1, r35.1]).bind fun r36 =>
  (pv r36.2 (tupA r36.1 0)).bind fun r37 =>
  (pv r37.2 (tupA r36.1 1)).bind fun r38 =>
  (upV Try.prog 43 r38.2 x9 x33 r37.1).bind fun r39 =>
  (pv r39.2 (binA Try.prog .add 3 x33 (.v (Go.Value.int Go.IntKind.i64 1)))).bind fun r40 =>
  some (.normal, ⟨[(33, r40.1), (50, r33.1), (14, r26.1), (12, r27.1), (10, x33), (11, r20.1), (34, r17.1), (33, x33), (32, x32), (31, x31), (9, x9), (7, x7), (22, x22), (6, x6), (4, x4), (3, x3), (2, x2), (0, x0)], r40.2⟩)) ((pv r33.2 (binA Try.prog .add 3 x33 (.v (Go.Value.int Go.IntKind.i64 1)))).bind fun r41 =>
  some (.normal, ⟨[(33, r41.1), (50, r33.1), (14, r26.1), (12, r27.1), (10, x33), (11, r20.1), (34, r17.1), (33, x33), (32, x32), (31, x31), (9, x9), (7, x7), (22, x22), (6, x6), (4, x4), (3, x3), (2, x2), (0, x0)], r41.2⟩))) (some (.exit 0, ⟨[(34, r17.1), (33, x33), (32, x32), (31, x31), (9, x9), (7, x7), (22, x22), (6, x6), (4, x4), (3, x3), (2, x2), (0, x0)], r17.2⟩))
theorem L_super_Mend_0_lit {E : FnA} {n n0 : Nat} {x33 x32 x31 x9 x7 x22 x6 x4 x3 x2 x0 : AV} {y : Bx} {Q : Ex → S → Prop} (h : Ends (B_super_Mend_0 E n n0 x33 x32 x31 x9 x7 x22 x6 x4 x3 x2 x0 y) Q) : Ends (L_super_Mend_0 E n n0 ⟨[(33, x33), (32, x32), (31, x31), (9, x9), (7, x7), (22, x22), (6, x6), (4, x4), (3, x3), (2, x2), (0, x0)], y⟩) Q := by
  rw [show L_super_Mend_0 E n n0 ⟨[(33, x33), (32, x32), (31, x31), (9, x9), (7, x7), (22, x22), (6, x6), (4, x4), (3, x3), (2, x2), (0, x0)], y⟩ = B_super_Mend_0 E n n0 x33 x32 x31 x9 x7 x22 x6 x4 x3 x2 x0 y by kernel_rfl]
  exact h
noncomputable def K_super_Mend_0 (_E : FnA) (_n _n0 : Nat) (t : S) : Option (Ex × S) :=
  some (.ret, ⟨((3, (get t.env 6)) :: (2, (get t.env 9)) :: (prune kp_super_Mend t.env)), t.bx⟩)
noncomputable def X_super_Mend_0 (_E : FnA) (_n _n0 : Nat) (i : Nat) (t : S) : Option (Ex × S) :=
  if i = 0 then some (.ret, ⟨((3, (get t.env 6)) :: (2, (get t.env 9)) :: (prune kp_super_Mend t.env)), t.bx⟩) else some (.exit i, ⟨t.env, t.bx⟩)
noncomputable def X_super_Mend_0_0 (_E : FnA) (_n _n0 : Nat) (x34 x33 x32 x31 x9 x7 x22 x6 x4 x3 x2 x0 : AV) (y : Bx) : Option (Ex × S) :=
  some (.ret, ⟨[(3, x6), (2, x9), (34, x34), (33, x33), (32, x32), (31, x31), (9, x9), (7, x7), (22, x22), (6, x6), (4, x4), (3, x3), (2, x2), (0, x0)], y⟩)
theorem X_super_Mend_0_0_lit {E : FnA} {n n0 : Nat} {x34 x33 x32 x31 x9 x7 x22 x6 x4 x3 x2 x0 : AV} {y : Bx} {Q : Ex → S → Prop} (h : Ends (X_super_Mend_0_0 E n n0 x34 x33 x32 x31 x9 x7 x22 x6 x4 x3 x2 x0 y) Q) : Ends (X_super_Mend_0 E n n0 0 ⟨[(34, x34), (33, x33), (32, x32), (31, x31), (9, x9), (7, x7), (22, x22), (6, x6), (4, x4), (3, x3), (2, x2), (0, x0)], y⟩) Q := by
  rw [show X_super_Mend_0 E n n0 0 ⟨[(34, x34), (33, x33), (32, x32), (31, x31), (9, x9), (7, x7), (22, x22), (6, x6), (4, x4), (3, x3), (2, x2), (0, x0)], y⟩ = X_super_Mend_0_0 E n n0 x34 x33 x32 x31 x9 x7 x22 x6 x4 x3 x2 x0 y by kernel_rfl]
  exact h
noncomputable def F_super_Mend (E : FnA) (n n0 : Nat) (a0 : AV) (bx : Bx) : Option (Ex × S) :=
  (callA E md0 bx 15 [a0]).bind fun r1 =>
  (pv r1.2 (tupA r1.1 0)).bind fun r2 =>
  (pv r2.2 (tupA r1.1 1)).bind fun r3 =>
  (pv r3.2 (tupA r1.1 2)).bind fun r4 =>
  (allocA Try.prog r4.2 23).bind fun r5 =>
  (stA Try.prog 23 r5.2 r5.1 r2.1).bind fun r6 =>
  (pv r6.2 (binA Try.prog .neq 26 r4.1 (.v (Go.Value.int Go.IntKind.i64 0)))).bind fun r7 =>
  condA r7.1 (some (.ret, ⟨[(3, r4.1), (2, (.v (Go.Value.map none))), (22, r7.1), (6, r4.1), (4, r5.1), (3, (.v (Go.Value.int Go.IntKind.i64 0))), (2, (.v (Go.Value.map none))), (0, a0)], r7.2⟩)) ((pv r7.2 (loadA Try.prog 23 r7.2 r5.1)).bind fun r8 =>
  (callA E md0 r8.2 7 [r8.1]).bind fun r9 =>
  (pv r9.2 (tupA r9.1 0)).bind fun r10 =>
  (pv r10.2 (tupA r9.1 1)).bind fun r11 =>
  (allocA Try.prog r11.2 25).bind fun r12 =>
  (stA Try.prog 25 r12.2 r12.1 r10.1).bind fun r13 =>
  (some (AV.mp (List.length r13.2), r13.2 ++ [[]])).bind fun r14 =>
  (pv r14.2 (sliceA Try.prog r14.2 39 a0 none (some (.v (Go.Value.int Go.IntKind.i64 2))) none)).bind fun r15 =>
  (pv r15.2 (lenA Try.prog 39 r15.1)).bind fun r16 =>
  exitA (iter ⟨[(33, (.v (Go.Value.int Go.IntKind.i64 0))), (32, r16.1), (31, r15.1), (9, r14.1), (7, r12.1), (22, r7.1), (6, r4.1), (4, r5.1), (3, (.v (Go.Value.int Go.IntKind.i64 0))), (2, (.v (Go.Value.map none))), (0, a0)], r16.2⟩ (L_super_Mend_0 E n n0) n ⟨[(33, (.v (Go.Value.int Go.IntKind.i64 0))), (32, r16.1), (31, r15.1), (9, r14.1), (7, r12.1), (22, r7.1), (6, r4.1), (4, r5.1), (3, (.v (Go.Value.int Go.IntKind.i64 0))), (2, (.v (Go.Value.map none))), (0, a0)], r16.2⟩) (K_super_Mend_0 E n n0) (X_super_Mend_0 E n n0))
theorem c_super_Mend_eq : Try.f17.body = some c_super_Mend := by kernel_rfl
theorem d_super_Mend : drawsOk Try.prog md0 c_super_Mend = true := by kernel_rfl
theorem F_super_Mend_eq (E : FnA) (n n0 : Nat) (a0 : AV) (bx : Bx) : evK Try.prog md0 E 62 kp_super_Mend n n0 c_super_Mend ⟨[(0, a0)], bx⟩ (fun s => some (.normal, s)) (fun i s => some (.exit i, s)) = F_super_Mend E n n0 a0 bx := by kernel_rfl

theorem E_super_Mend (n : Nat) (a0 : AV) (bx : Bx) : evFn cx0 ext0 (n + 1) 17 [a0] bx = fin Try.prog [.tmp 2, .tmp 3] (F_super_Mend (evFn cx0 ext0 n) n bx.length a0 bx) := by
  rw [evFn_eq2 (cx := cx0) (c := c_super_Mend) rfl Try.func17 c_super_Mend_eq (of_decide_eq_true (by kernel_rfl)) d_super_Mend (of_decide_eq_true (by kernel_rfl))]
  exact congrArg (fin Try.prog [.tmp 2, .tmp 3]) (F_super_Mend_eq (evFn cx0 ext0 n) n bx.length a0 bx)

/-- scupper/scupperref08.Mend -/
def kp_r08_Mend : Option (List Nat) := some [0, 2, 3, 4, 6, 7, 9, 10, 11, 13, 14, 23, 32, 50]
noncomputable def c_r08_Mend : Code := Try.f18.body.getD .skip
noncomputable def L_r08_Mend_0 (E : FnA) (_n n0 : Nat) (s : S) : Option (Ex × S) :=
  (pv s.bx (binA Try.prog .lss 3 (get s.env 10) (.v (Go.Value.int Go.IntKind.i64 2)))).bind fun r45 =>
  condA r45.1 ((pv r45.2 (indexAddrA Try.prog 39 (get (prune kp_r08_Mend s.env) 0) (get (prune kp_r08_Mend s.env) 10))).bind fun r46 =>
  (pv r46.2 (loadA Try.prog 32 r46.2 r46.1)).bind fun r47 =>
  (callA E md0 r47.2 19 [(.v (Go.Value.int Go.IntKind.i64 1)), r47.1]).bind fun r48 =>
  (pv r48.2 (tupA r48.1 0)).bind fun r49 =>
  (pv r49.2 (tupA r48.1 1)).bind fun r50 =>
  (pv r50.2 (tupA r48.1 2)).bind fun r51 =>
  (allocA Try.prog r51.2 25).bind fun r52 =>
  (stA Try.prog 25 r52.2 r52.1 r49.1).bind fun r53 =>
  (pv r53.2 (binA Try.prog .neq 26 r51.1 (.v (Go.Value.int Go.IntKind.i64 0)))).bind fun r54 =>
  (gsel false r54.2 (pv r54.2 (loadA Try.prog 25 r54.2 r52.1)) r54.1).bind fun r55 =>
  (gsel false r55.2 (pv r55.2 (loadA Try.prog 25 r55.2 (get (prune kp_r08_Mend (prune kp_r08_Mend s.env)) 7))) r54.1).bind fun r56 =>
  (gsel false r56.2 (pv r56.2 (binA Try.prog .neq 25 r55.1 r56.1)) r54.1).bind fun r57 =>
  (pv r57.2 (pickA r54.1 (.v (Go.Value.bool true)) r57.1)).bind fun r58 =>
  condA r58.1 ((allocA Try.prog r58.2 32).bind fun r59 =>
  (pv r59.2 (indexAddrA Try.prog 39 (get (prune kp_r08_Mend (prune kp_r08_Mend (prune kp_r08_Mend s.env))) 0) (get (prune kp_r08_Mend (prune kp_r08_Mend (prune kp_r08_Mend s.env))) 10))).bind fun r60 =>
  (pv r60.2 (loadA Try.prog 32 r60.2 r60.1)).bind fun r61 =>
  (pv r61.2 (loadA Try.prog 25 r61.2 (get (prune kp_r08_Mend (prune kp_r08_Mend (prune kp_r08_Mend s.env))) 7))).bind fun r62 =>
  (callA E md0 r62.2 34 [(.v (Go.Value.int Go.IntKind.i64 1)), r61.1, r62.1]).bind fun r63 =>
  (pv r63.2 (tupA r63.1 0)).bind fun r64 =>
  (pv r64.2 (tupA r63.1 1)).bind fun r65 =>
  (stA Try.prog 32 r65.2 r59.1 r64.1).bind fun r66 =>
  (pv r66.2 (loadA Try.prog 32 r66.2 r59.1)).bind fun r67 =>
  (pv r67.2 (buildA Try.prog 51 [(0, (get (prune kp_r08_Mend (prune kp_r08_Mend (prune kp_r08_Mend (prune kp_r08_Mend s.env)))) 10)), (1, r67.1)])).bind fun r68 =>
  (buildSliceA Try.prog r68.2 46 1 [(0, r68.1)]).bind fun r69 =>
  (appA Try.prog n0 r69.2 46 (get (prune kp_r08_Mend (prune kp_r08_Mend (prune kp_r08_Mend (prune kp_r08_Mend s.env)))) 9) r69.1).bind fun r70 =>
  (pv r70.2.2 (binA Try.prog .add 3 (get (prune kp_r08_Mend (mapE r70.2.1 (prune kp_r08_Mend (prune kp_r08_Mend (prune kp_r08_Mend (prune kp_r08_Mend s.env)))))) 10) (.v (Go.Value.int Go.IntKind.i64 1)))).bind fun r71 =>
  some (.normal, ⟨((10, r71.1) :: (9, r70.1) :: (14, (r70.2.1 r59.1)) :: (50, (r70.2.1 r58.1)) :: (13, (r70.2.1 r51.1)) :: (11, (r70.2.1 r52.1)) :: (32, (r70.2.1 r45.1)) :: (prune kp_r08_Mend (prune kp_r08_Mend (mapE r70.2.1 (prune kp_r08_Mend (prune kp_r08_Mend (prune kp_r08_Mend (prune kp_r08_Mend s.env)))))))), r71.2⟩)) ((pv r58.2 (binA Try.prog .add 3 (get (prune kp_r08_Mend (prune kp_r08_Mend (prune kp_r08_Mend s.env))) 10) (.v (Go.Value.int Go.IntKind.i64 1)))).bind fun r72 =>
  some (.normal, ⟨((10, r72.1) :: (50, r58.1) :: (13, r51.1) :: (11, r52.1) :: (32, r45.1) :: (prune kp_r08_Mend (prune kp_r08_Mend (prune kp_r08_Mend (prune kp_r08_Mend s.env))))), r72.2⟩))) (some (.exit 0, ⟨((32, r45.1) :: (prune kp_r08_Mend s.env)), r45.2⟩))
noncomputable def B_r08_Mend_0 (E : FnA) (_n n0 : Nat) (x10 x9 x7 x23 x6 x4 x3 x2 x0 : AV) (y : Bx) : Option (Ex × S) :=
  (pv y (binA Try.prog .lss 3 x10 (.v (Go.Value.int Go.IntKind.i64 2)))).bind fun r17 =>
  condA r17.1 ((pv r17.2 (indexAddrA Try.prog 39 x0 x10)).bind fun r18 =>
  (pv r18.2 (loadA Try.prog 32 r18.2 r18.1)).bind fun r19 =>
  (callA E md0 r19.2 19 [(.v (Go.Value.int Go.IntKind.i64 1)), r19.1]).bind fun r20 =>
  (pv r20.2 (tupA r20.1 0)).bind fun r21 =>
  (pv r21.2 (tupA r20.1 1)).bind fun r22 =>
  (pv r22.2 (tupA r20.1 2)).bind fun r23 =>
  (allocA Try.prog r23.2 25).bind fun r24 =>
  (stA Try.prog 25 r24.2 r24.1 r21.1).bind fun r25 =>
  (pv r25.2 (binA Try.prog .neq 26 r23.1 (.v (Go.Value.int Go.IntKind.i64 0)))).bind fun r26 =>
  (gsel false r26.2 (pv r26.2 (loadA Try.prog 25 r26.2 r24.1)) r26.1).bind fun r27 =>
  (gsel false r27.2 (pv r27.2 (loadA Try.prog 25 r27.2 x7)) r26.1).bind fun r28 =>
  (gsel false r28.2 (pv r28.2 (binA Try.prog .neq 25 r27.1 r28.1)) r26.1).bind fun r29 =>
  (pv r29.2 (pickA r26.1 (.v (Go.Value.bool true)) r29.1)).bind fun r30 =>
  condA r30.1 ((allocA Try.prog r30.2 32).bind fun r31 =>
  (pv r31.2 (indexAddrA Try.prog 39 x0 x10)).bind fun r32 =>
  (pv r32.2 (loadA Try.prog 32 r32.2 r32.1)).bind fun r33 =>
  (pv r33.2 (loadA Try.prog 25 r33.2 x7)).bind fun r34 =>
  (callA E md0 r34.2 34 [(.v (Go.Value.int Go.IntKind.i64 1)), r33.1, r34.1]).bind fun r35 =>
  (pv r35.2 (tupA r35.1 0)).bind fun r36 =>
  (pv r36.2 (tupA r35.1 1)).bind fun r37 =>
  (stA Try.prog 32 r37.2 r31.1 r36.1).bind fun r38 =>
  (pv r38.2 (loadA Try.prog 32 r38.2 r31.1)).bind fun r39 =>
  (pv r39.2 (buildA Try.prog 51 [(0, x10), (1, r39.1)])).bind fun r40 =>
  (buildSliceA Try.prog r40.2 46 1 [(0, r40.1)]).bind fun r41 =>
  (appA Try.prog n0 r41.2 46 x9 r41.1).bind fun r42 =>
  (pv r42.2.2 (binA Try.prog .add 3 (r42.2.1 x10) (.v (Go.Value.int Go.IntKind.i64 1)))).bind fun r43 =>
  some (.normal, ⟨[(10, r43.1), (9, r42.1), (14, (r42.2.1 r31.1)), (50, (r42.2.1 r30.1)), (13, (r42.2.1 r23.1)), (11, (r42.2.1 r24.1)), (32, (r42.2.1 r17.1)), (10, (r42.2.1 x10)), (9, (r42.2.1 x9)), (7, (r42.2.1 x7)), (23, (r42.2.1 x23)), (6, (r42.2.1 x6)), (4, (r42.2.1 x4)), (3, (r42.2.1 x3)), (2, (r42.2.1 x2)), (0, (r42.2.1 x0))], r43.2⟩)) ((pv r30.2 (binA Try.prog .add 3 x10 (.v (Go.Value.int Go.IntKind.i64 1)))).bind fun r44 =>
  some (.normal, ⟨[(10, r44.1), (50, r30.1), (13, r23.1), (11, r24.1), (32, r17.1), (10, x10), (9, x9), (7, x7), (23, x23), (6, x6), (4, x4), (3, x3), (2, x2), (0, x0)], r44.2⟩))) (some (.exit 0, ⟨[(32, r17.1), (10, x10), (9, x9), (7, x7), (23, x23), (6, x6), (4, x4), (3, x3), (2, x2), (0, x0)], r17.2⟩))
theorem L_r08_Mend_0_lit {E : FnA} {n n0 : Nat} {x10 x9 x7 x23 x6 x4 x3 x2 x0 : AV} {y : Bx} {Q : Ex → S → Prop} (h : Ends (B_r08_Mend_0 E n n0 x10 x9 x7 x23 x6 x4 x3 x2 x0 y) Q) : Ends (L_r08_Mend_0 E n n0 ⟨[(10, x10), (9, x9), (7, x7), (23, x23), (6, x6), (4, x4), (3, x3), (2, x2), (0, x0)], y⟩) Q := by
  rw [show L_r08_Mend_0 E n n0 ⟨[(10, x10), (9, x9), (7, x7), (23, x23), (6, x6), (4, x4), (3, x3), (2, x2), (0, x0)], y⟩ = B_r08_Mend_0 E n n0 x10 x9 x7 x23 x6 x4 x3 x2 x0 y by kernel_rfl]
  exact h
noncomputable def K_r08_Mend_0 (_E : FnA) (_n _n0 : Nat) (t : S) : Option (Ex × S) :=
  some (.ret, ⟨((3, (.v (Go.Value.int Go.IntKind.i64 0))) :: (2, (get t.env 9)) :: (prune kp_r08_Mend t.env)), t.bx⟩)
noncomputable def X_r08_Mend_0 (_E : FnA) (_n _n0 : Nat) (i : Nat) (t : S) : Option (Ex × S) :=
  if i = 0 then some (.ret, ⟨((3, (.v (Go.Value.int Go.IntKind.i64 0))) :: (2, (get t.env 9)) :: (prune kp_r08_Mend t.env)), t.bx⟩) else some (.exit i, ⟨t.env, t.bx⟩)
noncomputable def X_r08_Mend_0_0 (_E : FnA) (_n _n0 : Nat) (x32 x10 x9 x7 x23 x6 x4 x3 x2 x0 : AV) (y : Bx) : Option (Ex × S) :=
  some (.ret, ⟨[(3, (.v (Go.Value.int Go.IntKind.i64 0))), (2, x9), (32, x32), (10, x10), (9, x9), (7, x7), (23, x23), (6, x6), (4, x4), (3, x3), (2, x2), (0, x0)], y⟩)
theorem X_r08_Mend_0_0_lit {E : FnA} {n n0 : Nat} {x32 x10 x9 x7 x23 x6 x4 x3 x2 x0 : AV} {y : Bx} {Q : Ex → S → Prop} (h : Ends (X_r08_Mend_0_0 E n n0 x32 x10 x9 x7 x23 x6 x4 x3 x2 x0 y) Q) : Ends (X_r08_Mend_0 E n n0 0 ⟨[(32, x32), (10, x10), (9, x9), (7, x7), (23, x23), (6, x6), (4, x4), (3, x3), (2, x2), (0, x0)], y⟩) Q := by
  rw [show X_r08_Mend_0 E n n0 0 ⟨[(32, x32), (10, x10), (9, x9), (7, x7), (23, x23), (6, x6), (4, x4), (3, x3), (2, x2), (0, x0)], y⟩ = X_r08_Mend_0_0 E n n0 x32 x10 x9 x7 x23 x6 x4 x3 x2 x0 y by kernel_rfl]
  exact h
noncomputable def F_r08_Mend (E : FnA) (n n0 : Nat) (a0 : AV) (bx : Bx) : Option (Ex × S) :=
  (some (AV.bsl (List.length bx) 0 0 0, bx ++ [[]])).bind fun r1 =>
  (callA E md0 r1.2 16 [a0]).bind fun r2 =>
  (pv r2.2 (tupA r2.1 0)).bind fun r3 =>
  (pv r3.2 (tupA r2.1 1)).bind fun r4 =>
  (pv r4.2 (tupA r2.1 2)).bind fun r5 =>
  (allocA Try.prog r5.2 23).bind fun r6 =>
  (stA Try.prog 23 r6.2 r6.1 r3.1).bind fun r7 =>
  (pv r7.2 (binA Try.prog .neq 26 r5.1 (.v (Go.Value.int Go.IntKind.i64 0)))).bind fun r8 =>
  condA r8.1 ((some (AV.bsl (List.length r8.2) 0 0 0, r8.2 ++ [[]])).bind fun r9 =>
  some (.ret, ⟨[(3, r5.1), (2, r9.1), (23, r8.1), (6, r5.1), (4, r6.1), (3, (.v (Go.Value.int Go.IntKind.i64 0))), (2, r1.1), (0, a0)], r9.2⟩)) ((pv r8.2 (loadA Try.prog 23 r8.2 r6.1)).bind fun r10 =>
  (callA E md0 r10.2 8 [r10.1]).bind fun r11 =>
  (pv r11.2 (tupA r11.1 0)).bind fun r12 =>
  (pv r12.2 (tupA r11.1 1)).bind fun r13 =>
  (allocA Try.prog r13.2 25).bind fun r14 =>
  (stA Try.prog 25 r14.2 r14.1 r12.1).bind fun r15 =>
  (buildSliceA Try.prog r15.2 46 0 []).bind fun r16 =>
  exitA (iter ⟨[(10, (.v (Go.Value.int Go.IntKind.i64 0))), (9, r16.1), (7, r14.1), (23, r8.1), (6, r5.1), (4, r6.1), (3, (.v (Go.Value.int Go.IntKind.i64 0))), (2, r1.1), (0, a0)], r16.2⟩ (L_r08_Mend_0 E n n0) n ⟨[(10, (.v (Go.Value.int Go.IntKind.i64 0))), (9, r16.1), (7, r14.1), (23, r8.1), (6, r5.1), (4, r6.1), (3, (.v (Go.Value.int Go.IntKind.i64 0))), (2, r1.1), (0, a0)], r16.2⟩) (K_r08_Mend_0 E n n0) (X_r08_Mend_0 E n n0))
theorem c_r08_Mend_eq : Try.f18.body = some c_r08_Mend := by kernel_rfl
theorem d_r08_Mend : drawsOk Try.prog md0 c_r08_Mend = true := by kernel_rfl
theorem F_r08_Mend_eq (E : FnA) (n n0 : Nat) (a0 : AV) (bx : Bx) : evK Try.prog md0 E 67 kp_r08_Mend n n0 c_r08_Mend ⟨[(0, a0)], bx⟩ (fun s => some (.normal, s)) (fun i s => some (.exit i, s)) = F_r08_Mend E n n0 a0 bx := by kernel_rfl

theorem E_r08_Mend (n : Nat) (a0 : AV) (bx : Bx) : evFn cx0 ext0 (n + 1) 18 [a0] bx = fin Try.prog [.tmp 2, .tmp 3] (F_r08_Mend (evFn cx0 ext0 n) n bx.length a0 bx) := by
  rw [evFn_eq2 (cx := cx0) (c := c_r08_Mend) rfl Try.func18 c_r08_Mend_eq (of_decide_eq_true (by kernel_rfl)) d_r08_Mend (of_decide_eq_true (by kernel_rfl))]
  exact congrArg (fin Try.prog [.tmp 2, .tmp 3]) (F_r08_Mend_eq (evFn cx0 ext0 n) n bx.length a0 bx)

/-- scupper/scupperref07.Get -/
def kp_r07_Get : Option (List Nat) := some [0, 1, 3, 4, 5, 6, 7, 9, 11, 12, 15, 45, 49]
noncomputable def c_r07_Get : Code := Try.f19.body.getD .skip
noncomputable def L_r07_Get_0 (_E : FnA) (_n _n0 : Nat) (s : S) : Option (Ex × S) :=
  (pv s.bx (binA Try.prog .lss 3 (get s.env 12) (.v (Go.Value.int Go.IntKind.i64 54)))).bind fun r42 =>
  condA r42.1 ((pv r42.2 (indexAddrA Try.prog 32 (get (prune kp_r07_Get s.env) 3) (get (prune kp_r07_Get s.env) 12))).bind fun r43 =>
  (pv r43.2 (loadA Try.prog 5 r43.2 r43.1)).bind fun r44 =>
  (pv r44.2 (indexAddrA Try.prog 25 (get (prune kp_r07_Get s.env) 11) (get (prune kp_r07_Get s.env) 12))).bind fun r45 =>
  (stA Try.prog 5 r45.2 r45.1 r44.1).bind fun r46 =>
  (pv r46.2 (binA Try.prog .add 3 (get (prune kp_r07_Get (prune kp_r07_Get s.env)) 12) (.v (Go.Value.int Go.IntKind.i64 1)))).bind fun r47 =>
  some (.normal, ⟨((12, r47.1) :: (49, r42.1) :: (prune kp_r07_Get (prune kp_r07_Get (prune kp_r07_Get s.env)))), r47.2⟩)) (some (.exit 0, ⟨((49, r42.1) :: (prune kp_r07_Get s.env)), r42.2⟩))
noncomputable def B_r07_Get_0 (_E : FnA) (_n _n0 : Nat) (x12 x11 x45 x9 x7 x15 x6 x5 x4 x3 x0 x1 : AV) (y : Bx) : Option (Ex × S) :=
  (pv y (binA Try.prog .lss 3 x12 (.v (Go.Value.int Go.IntKind.i64 54)))).bind fun r36 =>
  condA r36.1 ((pv r36.2 (indexAddrA Try.prog 32 x3 x12)).bind fun r37 =>
  (pv r37.2 (loadA Try.prog 5 r37.2 r37.1)).bind fun r38 =>
  (pv r38.2 (indexAddrA Try.prog 25 x11 x12)).bind fun r39 =>
  (stA Try.prog 5 r39.2 r39.1 r38.1).bind fun r40 =>
  (pv r40.2 (binA Try.prog .add 3 x12 (.v (Go.Value.int Go.IntKind.i64 1)))).bind fun r41 =>
  some (.normal, ⟨[(12, r41.1), (49, r36.1), (12, x12), (11, x11), (45, x45), (9, x9), (7, x7), (15, x15), (6, x6), (5, x5), (4, x4), (3, x3), (0, x0), (1, x1)], r41.2⟩)) (some (.exit 0, ⟨[(49, r36.1), (12, x12), (11, x11), (45, x45), (9, x9), (7, x7), (15, x15), (6, x6), (5, x5), (4, x4), (3, x3), (0, x0), (1, x1)], r36.2⟩))
theorem L_r07_Get_0_lit {E : FnA} {n n0 : Nat} {x12 x11 x45 x9 x7 x15 x6 x5 x4 x3 x0 x1 : AV} {y : Bx} {Q : Ex → S → Prop} (h : Ends (B_r07_Get_0 E n n0 x12 x11 x45 x9 x7 x15 x6 x5 x4 x3 x0 x1 y) Q) : Ends (L_r07_Get_0 E n n0 ⟨[(12, x12), (11, x11), (45, x45), (9, x9), (7, x7), (15, x15), (6, x6), (5, x5), (4, x4), (3, x3), (0, x0), (1, x1)], y⟩) Q := by
  rw [show L_r07_Get_0 E n n0 ⟨[(12, x12), (11, x11), (45, x45), (9, x9), (7, x7), (15, x15), (6, x6), (5, x5), (4, x4), (3, x3), (0, x0), (1, x1)], y⟩ = B_r07_Get_0 E n n0 x12 x11 x45 x9 x7 x15 x6 x5 x4 x3 x0 x1 y by kernel_rfl]
  exact h
noncomputable def K_r07_Get_0 (_E : FnA) (_n _n0 : Nat) (t : S) : Option (Ex × S) :=
  (pv t.bx (loadA Try.prog 25 t.bx (get t.env 11))).bind fun r50 =>
  (stA Try.prog 25 r50.2 (get t.env 4) r50.1).bind fun r51 =>
  some (.ret, ⟨((6, (.v (Go.Value.int Go.IntKind.i64 0))) :: (5, (get t.env 7)) :: (prune kp_r07_Get t.env)), r51.2⟩)
noncomputable def X_r07_Get_0 (_E : FnA) (_n _n0 : Nat) (i : Nat) (t : S) : Option (Ex × S) :=
  if i = 0 then (pv t.bx (loadA Try.prog 25 t.bx (get t.env 11))).bind fun r48 =>
  (stA Try.prog 25 r48.2 (get t.env 4) r48.1).bind fun r49 =>
  some (.ret, ⟨((6, (.v (Go.Value.int Go.IntKind.i64 0))) :: (5, (get t.env 7)) :: (prune kp_r07_Get t.env)), r49.2⟩) else some (.exit i, ⟨t.env, t.bx⟩)
noncomputable def X_r07_Get_0_0 (_E : FnA) (_n _n0 : Nat) (x49 x12 x11 x45 x9 x7 x15 x6 x5 x4 x3 x0 x1 : AV) (y : Bx) : Option (Ex × S) :=
  (pv y (loadA Try.prog 25 y x11)).bind fun r52 =>
  (stA Try.prog 25 r52.2 x4 r52.1).bind fun r53 =>
  some (.ret, ⟨[(6, (.v (Go.Value.int Go.IntKind.i64 0))), (5, x7), (49, x49), (12, x12), (11, x11), (45, x45), (9, x9), (7, x7), (15, x15), (6, x6), (5, x5), (4, x4), (3, x3), (0, x0), (1, x1)], r53.2⟩)
theorem X_r07_Get_0_0_lit {E : FnA} {n n0 : Nat} {x49 x12 x11 x45 x9 x7 x15 x6 x5 x4 x3 x0 x1 : AV} {y : Bx} {Q : Ex → S → Prop} (h : Ends (X_r07_Get_0_0 E n n0 x49 x12 x11 x45 x9 x7 x15 x6 x5 x4 x3 x0 x1 y) Q) : Ends (X_r07_Get_0 E n n0 0 ⟨[(49, x49), (12, x12), (11, x11), (45, x45), (9, x9), (7, x7), (15, x15), (6, x6), (5, x5), (4, x4), (3, x3), (0, x0), (1, x1)], y⟩) Q := by
  rw [show X_r07_Get_0 E n n0 0 ⟨[(49, x49), (12, x12), (11, x11), (45, x45), (9, x9), (7, x7), (15, x15), (6, x6), (5, x5), (4, x4), (3, x3), (0, x0), (1, x1)], y⟩ = X_r07_Get_0_0 E n n0 x49 x12 x11 x45 x9 x7 x15 x6 x5 x4 x3 x0 x1 y by kernel_rfl]
  exact h
noncomputable def F_r07_Get (E : FnA) (n n0 : Nat) (a0 a1 : AV) (bx : Bx) : Option (Ex × S) :=
  (boxA bx a1).bind fun r1 =>
  (allocA Try.prog r1.2 25).bind fun r2 =>
  (callA E md0 r2.2 28 [a0]).bind fun r3 =>
  (pv r3.2 (unA .not r3.1)).bind fun r4 =>
  condA r4.1 ((pv r4.2 (buildA Try.prog 25 [])).bind fun r5 =>
  (stA Try.prog 25 r5.2 r2.1 r5.1).bind fun r6 =>
  some (.ret, ⟨[(6, (.v (Go.Value.int Go.IntKind.i64 2))), (5, (.v (Go.Value.int Go.IntKind.u32 0))), (15, r4.1), (6, (.v (Go.Value.int Go.IntKind.i64 0))), (5, (.v (Go.Value.int Go.IntKind.u32 0))), (4, r2.1), (3, r1.1), (0, a0), (1, a1)], r6.2⟩)) ((pv r4.2 (sliceA Try.prog r4.2 32 r1.1 none none none)).bind fun r7 =>
  (callA E md0 r7.2 35 [r7.1, (.v (Go.Value.int Go.IntKind.i64 56))]).bind fun r8 =>
  (pv r8.2 (tupA r8.1 0)).bind fun r9 =>
  (pv r9.2 (tupA r8.1 1)).bind fun r10 =>
  (pv r10.2 (sliceA Try.prog r10.2 32 r1.1 none none none)).bind fun r11 =>
  (callA E md0 r11.2 35 [r11.1, (.v (Go.Value.int Go.IntKind.i64 60))]).bind fun r12 =>
  (pv r12.2 (tupA r12.1 0)).bind fun r13 =>
  (pv r13.2 (tupA r12.1 1)).bind fun r14 =>
  (pv r14.2 (indexAddrA Try.prog 32 r1.1 (.v (Go.Value.int Go.IntKind.i64 54)))).bind fun r15 =>
  (pv r15.2 (loadA Try.prog 5 r15.2 r15.1)).bind fun r16 =>
  (convA Try.prog r16.2 5 3 r16.1).bind fun r17 =>
  (pv r17.2 (binA Try.prog .neq 3 r17.1 a0)).bind fun r18 =>
  (gsel false r18.2 (pv r18.2 (indexAddrA Try.prog 32 r1.1 (.v (Go.Value.int Go.IntKind.i64 55)))) r18.1).bind fun r19 =>
  (gsel false r19.2 (pv r19.2 (loadA Try.prog 5 r19.2 r19.1)) r18.1).bind fun r20 =>
  (gsel false r20.2 (convA Try.prog r20.2 5 3 r20.1) r18.1).bind fun r21 =>
  (gsel false r21.2 (some (a0, r21.2)) r18.1).bind fun r22 =>
  (gsel false r22.2 (pv r22.2 (binA Try.prog .sub 3 (.v (Go.Value.int Go.IntKind.i64 255)) r22.1)) r18.1).bind fun r23 =>
  (gsel false r23.2 (pv r23.2 (binA Try.prog .neq 3 r21.1 r23.1)) r18.1).bind fun r24 =>
  (pv r24.2 (pickA r18.1 (.v (Go.Value.bool true)) r24.1)).bind fun r25 =>
  (gsel false r25.2 (some (r13.1, r25.2)) r25.1).bind fun r26 =>
  (gsel false r26.2 (pv r26.2 (sliceA Try.prog r26.2 32 r1.1 none (some (.v (Go.Value.int Go.IntKind.i64 60))) none)) r25.1).bind fun r27 =>
  (gsel false r27.2 (callA E md0 r27.2 30 [r27.1]) r25.1).bind fun r28 =>
  (gsel false r28.2 (pv r28.2 (binA Try.prog .neq 36 r26.1 r28.1)) r25.1).bind fun r29 =>
  (pv r29.2 (pickA r25.1 (.v (Go.Value.bool true)) r29.1)).bind fun r30 =>
  condA r30.1 ((pv r30.2 (buildA Try.prog 25 [])).bind fun r31 =>
  (stA Try.prog 25 r31.2 r2.1 r31.1).bind fun r32 =>
  some (.ret, ⟨[(6, (.v (Go.Value.int Go.IntKind.i64 21))), (5, (.v (Go.Value.int Go.IntKind.u32 0))), (45, r30.1), (9, r13.1), (7, r9.1), (15, r4.1), (6, (.v (Go.Value.int Go.IntKind.i64 0))), (5, (.v (Go.Value.int Go.IntKind.u32 0))), (4, r2.1), (3, r1.1), (0, a0), (1, a1)], r32.2⟩)) ((pv r30.2 (buildA Try.prog 25 [])).bind fun r33 =>
  (allocA Try.prog r33.2 25).bind fun r34 =>
  (stA Try.prog 25 r34.2 r34.1 r33.1).bind fun r35 =>
  exitA (iter ⟨[(12, (.v (Go.Value.int Go.IntKind.i64 0))), (11, r34.1), (45, r30.1), (9, r13.1), (7, r9.1), (15, r4.1), (6, (.v (Go.Value.int Go.IntKind.i64 0))), (5, (.v (Go.Value.int Go.IntKind.u32 0))), (4, r2.1), (3, r1.1), (0, a0), (1, a1)], r35.2⟩ (L_r07_Get_0 E n n0) n ⟨[(12, (.v (Go.Value.int Go.IntKind.i64 0))), (11, r34.1), (45, r30.1), (9, r13.1), (7, r9.1), (15, r4.1), (6, (.v (Go.Value.int Go.IntKind.i64 0))), (5, (.v (Go.Value.int Go.IntKind.u32 0))), (4, r2.1), (3, r1.1), (0, a0), (1, a1)], r35.2⟩) (K_r07_Get_0 E n n0) (X_r07_Get_0 E n n0)))
theorem c_r07_Get_eq : Try.f19.body = some c_r07_Get := by kernel_rfl
theorem d_r07_Get : drawsOk Try.prog md0 c_r07_Get = true := by kernel_rfl
theorem F_r07_Get_eq (E : FnA) (n n0 : Nat) (a0 a1 : AV) (bx : Bx) : evK Try.prog md0 E 59 kp_r07_Get n n0 c_r07_Get ⟨[(0, a0), (1, a1)], bx⟩ (fun s => some (.normal, s)) (fun i s => some (.exit i, s)) = F_r07_Get E n n0 a0 a1 bx := by kernel_rfl

theorem E_r07_Get (n : Nat) (a0 a1 : AV) (bx : Bx) : evFn cx0 ext0 (n + 1) 19 [a0, a1] bx = fin Try.prog [.cell 4 25, .tmp 5, .tmp 6] (F_r07_Get (evFn cx0 ext0 n) n bx.length a0 a1 bx) := by
  rw [evFn_eq2 (cx := cx0) (c := c_r07_Get) rfl Try.func19 c_r07_Get_eq (of_decide_eq_true (by kernel_rfl)) d_r07_Get (of_decide_eq_true (by kernel_rfl))]
  exact congrArg (fin Try.prog [.cell 4 25, .tmp 5, .tmp 6]) (F_r07_Get_eq (evFn cx0 ext0 n) n bx.length a0 a1 bx)

/-- scupper/geom.Total -/
def kp_geom_Total : Option (List Nat) := some [0, 1, 2, 5]
noncomputable def c_geom_Total : Code := Try.f20.body.getD .skip
noncomputable def F_geom_Total (E : FnA) (_n _n0 : Nat) (a0 : AV) (bx : Bx) : Option (Ex × S) :=
  (boxA bx a0).bind fun r1 =>
  (pv r1.2 (loadA Try.prog 23 r1.2 r1.1)).bind fun r2 =>
  (callA E md0 r2.2 21 [r2.1]).bind fun r3 =>
  (pv r3.2 (binA Try.prog .neq 26 r3.1 (.v (Go.Value.int Go.IntKind.i64 0)))).bind fun r4 =>
  condA r4.1 (some (.ret, ⟨[(2, (.v (Go.Value.int Go.IntKind.i64 0))), (5, r4.1), (2, (.v (Go.Value.int Go.IntKind.i64 0))), (1, r1.1), (0, a0)], r4.2⟩)) ((pv r4.2 (fieldAddrA Try.prog 23 r1.1 0)).bind fun r5 =>
  (pv r5.2 (loadA Try.prog 3 r5.2 r5.1)).bind fun r6 =>
  (pv r6.2 (loadA Try.prog 23 r6.2 r1.1)).bind fun r7 =>
  (callA E md0 r7.2 36 [r7.1]).bind fun r8 =>
  (pv r8.2 (binA Try.prog .mul 3 r6.1 r8.1)).bind fun r9 =>
  (pv r9.2 (binA Try.prog .add 3 (.v (Go.Value.int Go.IntKind.i64 2)) r9.1)).bind fun r10 =>
  some (.ret, ⟨[(2, r10.1), (5, r4.1), (2, (.v (Go.Value.int Go.IntKind.i64 0))), (1, r1.1), (0, a0)], r10.2⟩))
theorem c_geom_Total_eq : Try.f20.body = some c_geom_Total := by kernel_rfl
theorem d_geom_Total : drawsOk Try.prog md0 c_geom_Total = true := by kernel_rfl
theorem F_geom_Total_eq (E : FnA) (n n0 : Nat) (a0 : AV) (bx : Bx) : evK Try.prog md0 E 12 kp_geom_Total n n0 c_geom_Total ⟨[(0, a0)], bx⟩ (fun s => some (.normal, s)) (fun i s => some (.exit i, s)) = F_geom_Total E n n0 a0 bx := by kernel_rfl

theorem E_geom_Total (n : Nat) (a0 : AV) (bx : Bx) : evFn cx0 ext0 (n + 1) 20 [a0] bx = fin Try.prog [.tmp 2] (F_geom_Total (evFn cx0 ext0 n) n bx.length a0 bx) := by
  rw [evFn_eq2 (cx := cx0) (c := c_geom_Total) rfl Try.func20 c_geom_Total_eq (of_decide_eq_true (by kernel_rfl)) d_geom_Total (of_decide_eq_true (by kernel_rfl))]
  exact congrArg (fin Try.prog [.tmp 2]) (F_geom_Total_eq (evFn cx0 ext0 n) n bx.length a0 bx)

/-- scupper/geom.Check -/
def kp_geom_Check : Option (List Nat) := some [0, 1, 2, 3, 27]
noncomputable def c_geom_Check : Code := Try.f21.body.getD .skip
noncomputable def F_geom_Check (E : FnA) (_n _n0 : Nat) (a0 : AV) (bx : Bx) : Option (Ex × S) :=
  (boxA bx a0).bind fun r1 =>
  (pv r1.2 (loadA Try.prog 23 r1.2 r1.1)).bind fun r2 =>
  (pv r2.2 (buildA Try.prog 23 [])).bind fun r3 =>
  (pv r3.2 (binA Try.prog .eql 23 r2.1 r3.1)).bind fun r4 =>
  (gsel false r4.2 (some ((.fn 37 [] []), r4.2)) r4.1).bind fun r5 =>
  (gsel false r5.2 (pv r5.2 (fieldAddrA Try.prog 23 r1.1 0)) r4.1).bind fun r6 =>
  (gsel false r6.2 (pv r6.2 (loadA Try.prog 3 r6.2 r6.1)) r4.1).bind fun r7 =>
  (gsel false r7.2 (callV E md0 r7.2 [r7.1, (.v (Go.Value.int Go.IntKind.i64 1)), (.v (Go.Value.int Go.IntKind.i64 8))] r5.1) r4.1).bind fun r8 =>
  (gsel false r8.2 (pv r8.2 (unA .not r8.1)) r4.1).bind fun r9 =>
  (pv r9.2 (pickA r4.1 (.v (Go.Value.bool true)) r9.1)).bind fun r10 =>
  (gsel false r10.2 (some ((.fn 37 [] []), r10.2)) r10.1).bind fun r11 =>
  (gsel false r11.2 (pv r11.2 (fieldAddrA Try.prog 23 r1.1 1)) r10.1).bind fun r12 =>
  (gsel false r12.2 (pv r12.2 (loadA Try.prog 3 r12.2 r12.1)) r10.1).bind fun r13 =>
  (gsel false r13.2 (callV E md0 r13.2 [r13.1, (.v (Go.Value.int Go.IntKind.i64 1)), (.v (Go.Value.int Go.IntKind.i64 8))] r11.1) r10.1).bind fun r14 =>
  (gsel false r14.2 (pv r14.2 (unA .not r14.1)) r10.1).bind fun r15 =>
  (pv r15.2 (pickA r10.1 (.v (Go.Value.bool true)) r15.1)).bind fun r16 =>
  (gsel false r16.2 (some ((.fn 37 [] []), r16.2)) r16.1).bind fun r17 =>
  (gsel false r17.2 (pv r17.2 (fieldAddrA Try.prog 23 r1.1 2)) r16.1).bind fun r18 =>
  (gsel false r18.2 (pv r18.2 (loadA Try.prog 3 r18.2 r18.1)) r16.1).bind fun r19 =>
  (gsel false r19.2 (callV E md0 r19.2 [r19.1, (.v (Go.Value.int Go.IntKind.i64 4)), (.v (Go.Value.int Go.IntKind.i64 128))] r17.1) r16.1).bind fun r20 =>
  (gsel false r20.2 (pv r20.2 (unA .not r20.1)) r16.1).bind fun r21 =>
  (pv r21.2 (pickA r16.1 (.v (Go.Value.bool true)) r21.1)).bind fun r22 =>
  condA r22.1 (some (.ret, ⟨[(2, (.v (Go.Value.int Go.IntKind.i64 2))), (27, r22.1), (3, (.fn 37 [] [])), (2, (.v (Go.Value.int Go.IntKind.i64 0))), (1, r1.1), (0, a0)], r22.2⟩)) (some (.ret, ⟨[(2, (.v (Go.Value.int Go.IntKind.i64 0))), (27, r22.1), (3, (.fn 37 [] [])), (2, (.v (Go.Value.int Go.IntKind.i64 0))), (1, r1.1), (0, a0)], r22.2⟩))
theorem c_geom_Check_eq : Try.f21.body = some c_geom_Check := by kernel_rfl
theorem d_geom_Check : drawsOk Try.prog md0 c_geom_Check = true := by kernel_rfl
theorem F_geom_Check_eq (E : FnA) (n n0 : Nat) (a0 : AV) (bx : Bx) : evK Try.prog md0 E 28 kp_geom_Check n n0 c_geom_Check ⟨[(0, a0)], bx⟩ (fun s => some (.normal, s)) (fun i s => some (.exit i, s)) = F_geom_Check E n n0 a0 bx := by kernel_rfl

theorem E_geom_Check (n : Nat) (a0 : AV) (bx : Bx) : evFn cx0 ext0 (n + 1) 21 [a0] bx = fin Try.prog [.tmp 2] (F_geom_Check (evFn cx0 ext0 n) n bx.length a0 bx) := by
  rw [evFn_eq2 (cx := cx0) (c := c_geom_Check) rfl Try.func21 c_geom_Check_eq (of_decide_eq_true (by kernel_rfl)) d_geom_Check (of_decide_eq_true (by kernel_rfl))]
  exact congrArg (fin Try.prog [.tmp 2]) (F_geom_Check_eq (evFn cx0 ext0 n) n bx.length a0 bx)

/-- scupper/num.Put16 -/
def kp_num_Put16 : Option (List Nat) := some [0, 2]
noncomputable def c_num_Put16 : Code := Try.f22.body.getD .skip
noncomputable def F_num_Put16 (_E : FnA) (_n _n0 : Nat) (a0 : AV) (bx : Bx) : Option (Ex × S) :=
  (allocA Try.prog bx 60).bind fun r1 =>
  (convA Try.prog r1.2 62 5 a0).bind fun r2 =>
  (pv r2.2 (binA Try.prog .shr 62 a0 (.v (Go.Value.int Go.IntKind.u64 8)))).bind fun r3 =>
  (convA Try.prog r3.2 62 5 r3.1).bind fun r4 =>
  (pv r4.2 (buildA Try.prog 60 [(0, r2.1), (1, r4.1)])).bind fun r5 =>
  (stA Try.prog 60 r5.2 r1.1 r5.1).bind fun r6 =>
  some (.ret, ⟨[(2, r1.1), (0, a0)], r6.2⟩)
theorem c_num_Put16_eq : Try.f22.body = some c_num_Put16 := by kernel_rfl
theorem d_num_Put16 : drawsOk Try.prog md0 c_num_Put16 = true := by kernel_rfl
theorem F_num_Put16_eq (E : FnA) (n n0 : Nat) (a0 : AV) (bx : Bx) : evK Try.prog md0 E 9 kp_num_Put16 n n0 c_num_Put16 ⟨[(0, a0)], bx⟩ (fun s => some (.normal, s)) (fun i s => some (.exit i, s)) = F_num_Put16 E n n0 a0 bx := by kernel_rfl

theorem E_num_Put16 (n : Nat) (a0 : AV) (bx : Bx) : evFn cx0 ext0 (n + 1) 22 [a0] bx = fin Try.prog [.cell 2 60] (F_num_Put16 (evFn cx0 ext0 n) n bx.length a0 bx) := by
  rw [evFn_eq2 (cx := cx0) (c := c_num_Put16) rfl Try.func22 c_num_Put16_eq (of_decide_eq_true (by kernel_rfl)) d_num_Put16 (of_decide_eq_true (by kernel_rfl))]
  exact congrArg (fin Try.prog [.cell 2 60]) (F_num_Put16_eq (evFn cx0 ext0 n) n bx.length a0 bx)

/-- scupper/scupperref06.Check -/
def kp_r06_Check : Option (List Nat) := some [0, 1, 2, 30]
noncomputable def c_r06_Check : Code := Try.f23.body.getD .skip
noncomputable def F_r06_Check (_E : FnA) (_n _n0 : Nat) (a0 : AV) (bx : Bx) : Option (Ex × S) :=
  (boxA bx a0).bind fun r1 =>
  (pv r1.2 (fieldAddrA Try.prog 23 r1.1 0)).bind fun r2 =>
  (pv r2.2 (loadA Try.prog 3 r2.2 r2.1)).bind fun r3 =>
  (pv r3.2 (binA Try.prog .lss 3 r3.1 (.v (Go.Value.int Go.IntKind.i64 1)))).bind fun r4 =>
  (gsel false r4.2 (pv r4.2 (fieldAddrA Try.prog 23 r1.1 0)) r4.1).bind fun r5 =>
  (gsel false r5.2 (pv r5.2 (loadA Try.prog 3 r5.2 r5.1)) r4.1).bind fun r6 =>
  (gsel false r6.2 (pv r6.2 (binA Try.prog .gtr 3 r6.1 (.v (Go.Value.int Go.IntKind.i64 8)))) r4.1).bind fun r7 =>
  (pv r7.2 (pickA r4.1 (.v (Go.Value.bool true)) r7.1)).bind fun r8 =>
  (gsel false r8.2 (pv r8.2 (fieldAddrA Try.prog 23 r1.1 1)) r8.1).bind fun r9 =>
  (gsel false r9.2 (pv r9.2 (loadA Try.prog 3 r9.2 r9.1)) r8.1).bind fun r10 =>
  (gsel false r10.2 (pv r10.2 (binA Try.prog .lss 3 r10.1 (.v (Go.Value.int Go.IntKind.i64 1)))) r8.1).bind fun r11 =>
  (pv r11.2 (pickA r8.1 (.v (Go.Value.bool true)) r11.1)).bind fun r12 =>
  (gsel false r12.2 (pv r12.2 (fieldAddrA Try.prog 23 r1.1 1)) r12.1).bind fun r13 =>
  (gsel false r13.2 (pv r13.2 (loadA Try.prog 3 r13.2 r13.1)) r12.1).bind fun r14 =>
  (gsel false r14.2 (pv r14.2 (binA Try.prog .gtr 3 r14.1 (.v (Go.Value.int Go.IntKind.i64 8)))) r12.1).bind fun r15 =>
  (pv r15.2 (pickA r12.1 (.v (Go.Value.bool true)) r15.1)).bind fun r16 =>
  (gsel false r16.2 (pv r16.2 (fieldAddrA Try.prog 23 r1.1 2)) r16.1).bind fun r17 =>
  (gsel false r17.2 (pv r17.2 (loadA Try.prog 3 r17.2 r17.1)) r16.1).bind fun r18 =>
  (gsel false r18.2 (pv r18.2 (binA Try.prog .lss 3 r18.1 (.v (Go.Value.int Go.IntKind.i64 4)))) r16.1).bind fun r19 =>
  (pv r19.2 (pickA r16.1 (.v (Go.Value.bool true)) r19.1)).bind fun r20 =>
  (gsel false r20.2 (pv r20.2 (fieldAddrA Try.prog 23 r1.1 2)) r20.1).bind fun r21 =>
  (gsel false r21.2 (pv r21.2 (loadA Try.prog 3 r21.2 r21.1)) r20.1).bind fun r22 =>
  (gsel false r22.2 (pv r22.2 (binA Try.prog .gtr 3 r22.1 (.v (Go.Value.int Go.IntKind.i64 128)))) r20.1).bind fun r23 =>
  (pv r23.2 (pickA r20.1 (.v (Go.Value.bool true)) r23.1)).bind fun r24 =>
  condA r24.1 (some (.ret, ⟨[(2, (.v (Go.Value.int Go.IntKind.i64 2))), (30, r24.1), (2, (.v (Go.Value.int Go.IntKind.i64 0))), (1, r1.1), (0, a0)], r24.2⟩)) (some (.ret, ⟨[(2, (.v (Go.Value.int Go.IntKind.i64 0))), (30, r24.1), (2, (.v (Go.Value.int Go.IntKind.i64 0))), (1, r1.1), (0, a0)], r24.2⟩))
theorem c_r06_Check_eq : Try.f23.body = some c_r06_Check := by kernel_rfl
theorem d_r06_Check : drawsOk Try.prog md0 c_r06_Check = true := by kernel_rfl
theorem F_r06_Check_eq (E : FnA) (n n0 : Nat) (a0 : AV) (bx : Bx) : evK Try.prog md0 E 31 kp_r06_Check n n0 c_r06_Check ⟨[(0, a0)], bx⟩ (fun s => some (.normal, s)) (fun i s => some (.exit i, s)) = F_r06_Check E n n0 a0 bx := by kernel_rfl

theorem E_r06_Check (n : Nat) (a0 : AV) (bx : Bx) : evFn cx0 ext0 (n + 1) 23 [a0] bx = fin Try.prog [.tmp 2] (F_r06_Check (evFn cx0 ext0 n) n bx.length a0 bx) := by
  rw [evFn_eq2 (cx := cx0) (c := c_r06_Check) rfl Try.func23 c_r06_Check_eq (of_decide_eq_true (by kernel_rfl)) d_r06_Check (of_decide_eq_true (by kernel_rfl))]
  exact congrArg (fin Try.prog [.tmp 2]) (F_r06_Check_eq (evFn cx0 ext0 n) n bx.length a0 bx)

/-- scupper/scupperref01.Put16 -/
def kp_r01_Put16 : Option (List Nat) := some [0, 2]
noncomputable def c_r01_Put16 : Code := Try.f24.body.getD .skip
noncomputable def F_r01_Put16 (_E : FnA) (_n _n0 : Nat) (a0 : AV) (bx : Bx) : Option (Ex × S) :=
  (some (AV.bsl (List.length bx) 0 0 0, bx ++ [[]])).bind fun r1 =>
  (pv r1.2 (binA Try.prog .rem 62 a0 (.v (Go.Value.int Go.IntKind.u16 256)))).bind fun r2 =>
  (convA Try.prog r2.2 62 5 r2.1).bind fun r3 =>
  (pv r3.2 (binA Try.prog .quo 62 a0 (.v (Go.Value.int Go.IntKind.u16 256)))).bind fun r4 =>
  (convA Try.prog r4.2 62 5 r4.1).bind fun r5 =>
  (buildSliceA Try.prog r5.2 58 2 [(0, r3.1), (1, r5.1)]).bind fun r6 =>
  some (.ret, ⟨[(2, r6.1), (2, r1.1), (0, a0)], r6.2⟩)
theorem c_r01_Put16_eq : Try.f24.body = some c_r01_Put16 := by kernel_rfl
theorem d_r01_Put16 : drawsOk Try.prog md0 c_r01_Put16 = true := by kernel_rfl
theorem F_r01_Put16_eq (E : FnA) (n n0 : Nat) (a0 : AV) (bx : Bx) : evK Try.prog md0 E 10 kp_r01_Put16 n n0 c_r01_Put16 ⟨[(0, a0)], bx⟩ (fun s => some (.normal, s)) (fun i s => some (.exit i, s)) = F_r01_Put16 E n n0 a0 bx := by kernel_rfl

theorem E_r01_Put16 (n : Nat) (a0 : AV) (bx : Bx) : evFn cx0 ext0 (n + 1) 24 [a0] bx = fin Try.prog [.tmp 2] (F_r01_Put16 (evFn cx0 ext0 n) n bx.length a0 bx) := by
  rw [evFn_eq2 (cx := cx0) (c := c_r01_Put16) rfl Try.func24 c_r01_Put16_eq (of_decide_eq_true (by kernel_rfl)) d_r01_Put16 (of_decide_eq_true (by kernel_rfl))]
  exact congrArg (fin Try.prog [.tmp 2]) (F_r01_Put16_eq (evFn cx0 ext0 n) n bx.length a0 bx)

/-- scupper/num.Get16 -/
def kp_num_Get16 : Option (List Nat) := some [0, 1, 4, 5, 6, 7]
noncomputable def c_num_Get16 : Code := Try.f25.body.getD .skip
noncomputable def F_num_Get16 (E : FnA) (_n _n0 : Nat) (a0 a1 : AV) (bx : Bx) : Option (Ex × S) :=
  (callA E md0 bx 38 [a0, a1, (.v (Go.Value.int Go.IntKind.i64 2))]).bind fun r1 =>
  (pv r1.2 (tupA r1.1 0)).bind fun r2 =>
  (pv r2.2 (tupA r1.1 1)).bind fun r3 =>
  (convA Try.prog r3.2 36 62 r2.1).bind fun r4 =>
  some (.ret, ⟨[(5, r3.1), (4, r4.1), (7, r3.1), (6, r2.1), (5, (.v (Go.Value.int Go.IntKind.i64 0))), (4, (.v (Go.Value.int Go.IntKind.u16 0))), (0, a0), (1, a1)], r4.2⟩)
theorem c_num_Get16_eq : Try.f25.body = some c_num_Get16 := by kernel_rfl
theorem d_num_Get16 : drawsOk Try.prog md0 c_num_Get16 = true := by kernel_rfl
theorem F_num_Get16_eq (E : FnA) (n n0 : Nat) (a0 a1 : AV) (bx : Bx) : evK Try.prog md0 E 17 kp_num_Get16 n n0 c_num_Get16 ⟨[(0, a0), (1, a1)], bx⟩ (fun s => some (.normal, s)) (fun i s => some (.exit i, s)) = F_num_Get16 E n n0 a0 a1 bx := by kernel_rfl

theorem E_num_Get16 (n : Nat) (a0 a1 : AV) (bx : Bx) : evFn cx0 ext0 (n + 1) 25 [a0, a1] bx = fin Try.prog [.tmp 4, .tmp 5] (F_num_Get16 (evFn cx0 ext0 n) n bx.length a0 a1 bx) := by
  rw [evFn_eq2 (cx := cx0) (c := c_num_Get16) rfl Try.func25 c_num_Get16_eq (of_decide_eq_true (by kernel_rfl)) d_num_Get16 (of_decide_eq_true (by kernel_rfl))]
  exact congrArg (fin Try.prog [.tmp 4, .tmp 5]) (F_num_Get16_eq (evFn cx0 ext0 n) n bx.length a0 a1 bx)

/-- scupper/scupperref01.Get16 -/
def kp_r01_Get16 : Option (List Nat) := some [0, 1, 4, 5, 6, 7]
noncomputable def c_r01_Get16 : Code := Try.f26.body.getD .skip
noncomputable def F_r01_Get16 (E : FnA) (_n _n0 : Nat) (a0 a1 : AV) (bx : Bx) : Option (Ex × S) :=
  (callA E md0 bx 39 [a0, a1, (.v (Go.Value.int Go.IntKind.i64 2))]).bind fun r1 =>
  (pv r1.2 (tupA r1.1 0)).bind fun r2 =>
  (pv r2.2 (tupA r1.1 1)).bind fun r3 =>
  (convA Try.prog r3.2 77 62 r2.1).bind fun r4 =>
  some (.ret, ⟨[(5, r3.1), (4, r4.1), (7, r3.1), (6, r2.1), (5, (.v (Go.Value.int Go.IntKind.i64 0))), (4, (.v (Go.Value.int Go.IntKind.u16 0))), (0, a0), (1, a1)], r4.2⟩)
theorem c_r01_Get16_eq : Try.f26.body = some c_r01_Get16 := by kernel_rfl
theorem d_r01_Get16 : drawsOk Try.prog md0 c_r01_Get16 = true := by kernel_rfl
theorem F_r01_Get16_eq (E : FnA) (n n0 : Nat) (a0 a1 : AV) (bx : Bx) : evK Try.prog md0 E 17 kp_r01_Get16 n n0 c_r01_Get16 ⟨[(0, a0), (1, a1)], bx⟩ (fun s => some (.normal, s)) (fun i s => some (.exit i, s)) = F_r01_Get16 E n n0 a0 a1 bx := by kernel_rfl

theorem E_r01_Get16 (n : Nat) (a0 a1 : AV) (bx : Bx) : evFn cx0 ext0 (n + 1) 26 [a0, a1] bx = fin Try.prog [.tmp 4, .tmp 5] (F_r01_Get16 (evFn cx0 ext0 n) n bx.length a0 a1 bx) := by
  rw [evFn_eq2 (cx := cx0) (c := c_r01_Get16) rfl Try.func26 c_r01_Get16_eq (of_decide_eq_true (by kernel_rfl)) d_r01_Get16 (of_decide_eq_true (by kernel_rfl))]
  exact congrArg (fin Try.prog [.tmp 4, .tmp 5]) (F_r01_Get16_eq (evFn cx0 ext0 n) n bx.length a0 a1 bx)

/-- scupper/seal.Put -/
def kp_seal_Put : Option (List Nat) := some [0, 1, 2, 5, 6, 7, 8, 9, 10, 13]
noncomputable def c_seal_Put : Code := Try.f27.body.getD .skip
noncomputable def F_seal_Put (E : FnA) (_n _n0 : Nat) (a0 a1 a2 : AV) (bx : Bx) : Option (Ex × S) :=
  (boxA bx a2).bind fun r1 =>
  (allocA Try.prog r1.2 32).bind fun r2 =>
  (allocA Try.prog r2.2 32).bind fun r3 =>
  (callA E md0 r3.2 40 [a0]).bind fun r4 =>
  (pv r4.2 (unA .not r4.1)).bind fun r5 =>
  condA r5.1 ((pv r5.2 (loadA Try.prog 32 r5.2 r3.1)).bind fun r6 =>
  (stA Try.prog 32 r6.2 r2.1 r6.1).bind fun r7 =>
  some (.ret, ⟨[(7, (.v (Go.Value.int Go.IntKind.i64 2))), (13, r5.1), (8, r3.1), (7, (.v (Go.Value.int Go.IntKind.i64 0))), (6, r2.1), (5, r1.1), (0, a0), (1, a1), (2, a2)], r7.2⟩)) ((pv r5.2 (sliceA Try.prog r5.2 32 r3.1 none none none)).bind fun r8 =>
  (pv r8.2 (sliceA Try.prog r8.2 25 r1.1 none none none)).bind fun r9 =>
  (copyA Try.prog r9.2 58 r8.1 r9.1).bind fun r10 =>
  (convA Try.prog r10.2 3 5 a0).bind fun r11 =>
  (pv r11.2 (binA Try.prog .sub 3 (.v (Go.Value.int Go.IntKind.i64 255)) a0)).bind fun r12 =>
  (convA Try.prog r12.2 3 5 r12.1).bind fun r13 =>
  (pv r13.2 (indexAddrA Try.prog 32 r3.1 (.v (Go.Value.int Go.IntKind.i64 54)))).bind fun r14 =>
  (stA Try.prog 5 r14.2 r14.1 r11.1).bind fun r15 =>
  (pv r15.2 (indexAddrA Try.prog 32 r3.1 (.v (Go.Value.int Go.IntKind.i64 55)))).bind fun r16 =>
  (stA Try.prog 5 r16.2 r16.1 r13.1).bind fun r17 =>
  (callA E md0 r17.2 41 [a1]).bind fun r18 =>
  (allocA Try.prog r18.2 80).bind fun r19 =>
  (stA Try.prog 80 r19.2 r19.1 r18.1).bind fun r20 =>
  (pv r20.2 (sliceA Try.prog r20.2 32 r3.1 (some (.v (Go.Value.int Go.IntKind.i64 56))) none none)).bind fun r21 =>
  (pv r21.2 (sliceA Try.prog r21.2 80 r19.1 none none none)).bind fun r22 =>
  (copyA Try.prog r22.2 58 r21.1 r22.1).bind fun r23 =>
  (pv r23.2 (sliceA Try.prog r23.2 32 r3.1 none (some (.v (Go.Value.int Go.IntKind.i64 60))) none)).bind fun r24 =>
  (buildSliceA Try.prog r24.2 87 1 [(0, r24.1)]).bind fun r25 =>
  (callA E md0 r25.2 42 [r25.1]).bind fun r26 =>
  (callA E md0 r26.2 41 [r26.1]).bind fun r27 =>
  (allocA Try.prog r27.2 80).bind fun r28 =>
  (stA Try.prog 80 r28.2 r28.1 r27.1).bind fun r29 =>
  (pv r29.2 (sliceA Try.prog r29.2 32 r3.1 (some (.v (Go.Value.int Go.IntKind.i64 60))) none none)).bind fun r30 =>
  (pv r30.2 (sliceA Try.prog r30.2 80 r28.1 none none none)).bind fun r31 =>
  (copyA Try.prog r31.2 58 r30.1 r31.1).bind fun r32 =>
  (pv r32.2 (loadA Try.prog 32 r32.2 r3.1)).bind fun r33 =>
  (stA Try.prog 32 r33.2 r2.1 r33.1).bind fun r34 =>
  some (.ret, ⟨[(7, (.v (Go.Value.int Go.IntKind.i64 0))), (10, r28.1), (9, r19.1), (13, r5.1), (8, r3.1), (7, (.v (Go.Value.int Go.IntKind.i64 0))), (6, r2.1), (5, r1.1), (0, a0), (1, a1), (2, a2)], r34.2⟩))
theorem c_seal_Put_eq : Try.f27.body = some c_seal_Put := by kernel_rfl
theorem d_seal_Put : drawsOk Try.prog md0 c_seal_Put = true := by kernel_rfl
theorem F_seal_Put_eq (E : FnA) (n n0 : Nat) (a0 a1 a2 : AV) (bx : Bx) : evK Try.prog md0 E 38 kp_seal_Put n n0 c_seal_Put ⟨[(0, a0), (1, a1), (2, a2)], bx⟩ (fun s => some (.normal, s)) (fun i s => some (.exit i, s)) = F_seal_Put E n n0 a0 a1 a2 bx := by kernel_rfl

theorem E_seal_Put (n : Nat) (a0 a1 a2 : AV) (bx : Bx) : evFn cx0 ext0 (n + 1) 27 [a0, a1, a2] bx = fin Try.prog [.cell 6 32, .tmp 7] (F_seal_Put (evFn cx0 ext0 n) n bx.length a0 a1 a2 bx) := by
  rw [evFn_eq2 (cx := cx0) (c := c_seal_Put) rfl Try.func27 c_seal_Put_eq (of_decide_eq_true (by kernel_rfl)) d_seal_Put (of_decide_eq_true (by kernel_rfl))]
  exact congrArg (fin Try.prog [.cell 6 32, .tmp 7]) (F_seal_Put_eq (evFn cx0 ext0 n) n bx.length a0 a1 a2 bx)

/-- scupper/scupperref07.may -/
def kp_r07_may : Option (List Nat) := some [0, 2]
noncomputable def c_r07_may : Code := Try.f28.body.getD .skip
noncomputable def F_r07_may (_E : FnA) (_n _n0 : Nat) (a0 : AV) (bx : Bx) : Option (Ex × S) :=
  (pv bx (binA Try.prog .geq 3 a0 (.v (Go.Value.int Go.IntKind.i64 1)))).bind fun r1 =>
  (gsel true r1.2 (some (a0, r1.2)) r1.1).bind fun r2 =>
  (gsel true r2.2 (pv r2.2 (binA Try.prog .leq 3 r2.1 (.v (Go.Value.int Go.IntKind.i64 6)))) r1.1).bind fun r3 =>
  (pv r3.2 (pickA r1.1 r3.1 (.v (Go.Value.bool false)))).bind fun r4 =>
  some (.ret, ⟨[(2, r4.1), (2, (.v (Go.Value.bool false))), (0, a0)], r4.2⟩)
theorem c_r07_may_eq : Try.f28.body = some c_r07_may := by kernel_rfl
theorem d_r07_may : drawsOk Try.prog md0 c_r07_may = true := by kernel_rfl
theorem F_r07_may_eq (E : FnA) (n n0 : Nat) (a0 : AV) (bx : Bx) : evK Try.prog md0 E 9 kp_r07_may n n0 c_r07_may ⟨[(0, a0)], bx⟩ (fun s => some (.normal, s)) (fun i s => some (.exit i, s)) = F_r07_may E n n0 a0 bx := by kernel_rfl

theorem E_r07_may (n : Nat) (a0 : AV) (bx : Bx) : evFn cx0 ext0 (n + 1) 28 [a0] bx = fin Try.prog [.tmp 2] (F_r07_may (evFn cx0 ext0 n) n bx.length a0 bx) := by
  rw [evFn_eq2 (cx := cx0) (c := c_r07_may) rfl Try.func28 c_r07_may_eq (of_decide_eq_true (by kernel_rfl)) d_r07_may (of_decide_eq_true (by kernel_rfl))]
  exact congrArg (fin Try.prog [.tmp 2]) (F_r07_may_eq (evFn cx0 ext0 n) n bx.length a0 bx)

/-- scupper/scupperref01.Put32 -/
def kp_r01_Put32 : Option (List Nat) := some [0, 2]
noncomputable def c_r01_Put32 : Code := Try.f29.body.getD .skip
noncomputable def F_r01_Put32 (_E : FnA) (_n _n0 : Nat) (a0 : AV) (bx : Bx) : Option (Ex × S) :=
  (some (AV.bsl (List.length bx) 0 0 0, bx ++ [[]])).bind fun r1 =>
  (pv r1.2 (binA Try.prog .rem 36 a0 (.v (Go.Value.int Go.IntKind.u32 256)))).bind fun r2 =>
  (convA Try.prog r2.2 36 5 r2.1).bind fun r3 =>
  (pv r3.2 (binA Try.prog .quo 36 a0 (.v (Go.Value.int Go.IntKind.u32 256)))).bind fun r4 =>
  (pv r4.2 (binA Try.prog .rem 36 r4.1 (.v (Go.Value.int Go.IntKind.u32 256)))).bind fun r5 =>
  (convA Try.prog r5.2 36 5 r5.1).bind fun r6 =>
  (pv r6.2 (binA Try.prog .quo 36 a0 (.v (Go.Value.int Go.IntKind.u32 65536)))).bind fun r7 =>
  (pv r7.2 (binA Try.prog .rem 36 r7.1 (.v (Go.Value.int Go.IntKind.u32 256)))).bind fun r8 =>
  (convA Try.prog r8.2 36 5 r8.1).bind fun r9 =>
  (pv r9.2 (binA Try.prog .quo 36 a0 (.v (Go.Value.int Go.IntKind.u32 16777216)))).bind fun r10 =>
  (convA Try.prog r10.2 36 5 r10.1).bind fun r11 =>
  (buildSliceA Try.prog r11.2 58 4 [(0, r3.1), (1, r6.1), (2, r9.1), (3, r11.1)]).bind fun r12 =>
  some (.ret, ⟨[(2, r12.1), (2, r1.1), (0, a0)], r12.2⟩)
theorem c_r01_Put32_eq : Try.f29.body = some c_r01_Put32 := by kernel_rfl
theorem d_r01_Put32 : drawsOk Try.prog md0 c_r01_Put32 = true := by kernel_rfl
theorem F_r01_Put32_eq (E : FnA) (n n0 : Nat) (a0 : AV) (bx : Bx) : evK Try.prog md0 E 18 kp_r01_Put32 n n0 c_r01_Put32 ⟨[(0, a0)], bx⟩ (fun s => some (.normal, s)) (fun i s => some (.exit i, s)) = F_r01_Put32 E n n0 a0 bx := by kernel_rfl

theorem E_r01_Put32 (n : Nat) (a0 : AV) (bx : Bx) : evFn cx0 ext0 (n + 1) 29 [a0] bx = fin Try.prog [.tmp 2] (F_r01_Put32 (evFn cx0 ext0 n) n bx.length a0 bx) := by
  rw [evFn_eq2 (cx := cx0) (c := c_r01_Put32) rfl Try.func29 c_r01_Put32_eq (of_decide_eq_true (by kernel_rfl)) d_r01_Put32 (of_decide_eq_true (by kernel_rfl))]
  exact congrArg (fin Try.prog [.tmp 2]) (F_r01_Put32_eq (evFn cx0 ext0 n) n bx.length a0 bx)

/-- scupper/scupperref02.Of -/
def kp_r02_Of : Option (List Nat) := some [0, 2]
noncomputable def c_r02_Of : Code := Try.f30.body.getD .skip
noncomputable def F_r02_Of (E : FnA) (_n _n0 : Nat) (a0 : AV) (bx : Bx) : Option (Ex × S) :=
  (callA E md0 bx 43 [(.v (Go.Value.int Go.IntKind.u32 4294967295)), a0]).bind fun r1 =>
  (pv r1.2 (binA Try.prog .sub 36 (.v (Go.Value.int Go.IntKind.u32 4294967295)) r1.1)).bind fun r2 =>
  some (.ret, ⟨[(2, r2.1), (2, (.v (Go.Value.int Go.IntKind.u32 0))), (0, a0)], r2.2⟩)
theorem c_r02_Of_eq : Try.f30.body = some c_r02_Of := by kernel_rfl
theorem d_r02_Of : drawsOk Try.prog md0 c_r02_Of = true := by kernel_rfl
theorem F_r02_Of_eq (E : FnA) (n n0 : Nat) (a0 : AV) (bx : Bx) : evK Try.prog md0 E 6 kp_r02_Of n n0 c_r02_Of ⟨[(0, a0)], bx⟩ (fun s => some (.normal, s)) (fun i s => some (.exit i, s)) = F_r02_Of E n n0 a0 bx := by kernel_rfl

theorem E_r02_Of (n : Nat) (a0 : AV) (bx : Bx) : evFn cx0 ext0 (n + 1) 30 [a0] bx = fin Try.prog [.tmp 2] (F_r02_Of (evFn cx0 ext0 n) n bx.length a0 bx) := by
  rw [evFn_eq2 (cx := cx0) (c := c_r02_Of) rfl Try.func30 c_r02_Of_eq (of_decide_eq_true (by kernel_rfl)) d_r02_Of (of_decide_eq_true (by kernel_rfl))]
  exact congrArg (fin Try.prog [.tmp 2]) (F_r02_Of_eq (evFn cx0 ext0 n) n bx.length a0 bx)

/-- scupper/seal.Get -/
def kp_seal_Get : Option (List Nat) := some [0, 1, 3, 4, 5, 6, 7, 12]
noncomputable def c_seal_Get : Code := Try.f31.body.getD .skip
noncomputable def F_seal_Get (E : FnA) (_n _n0 : Nat) (a0 a1 : AV) (bx : Bx) : Option (Ex × S) :=
  (boxA bx a1).bind fun r1 =>
  (allocA Try.prog r1.2 25).bind fun r2 =>
  (callA E md0 r2.2 40 [a0]).bind fun r3 =>
  (pv r3.2 (unA .not r3.1)).bind fun r4 =>
  condA r4.1 ((pv r4.2 (buildA Try.prog 25 [])).bind fun r5 =>
  (stA Try.prog 25 r5.2 r2.1 r5.1).bind fun r6 =>
  some (.ret, ⟨[(6, (.v (Go.Value.int Go.IntKind.i64 2))), (5, (.v (Go.Value.int Go.IntKind.u32 0))), (7, r4.1), (6, (.v (Go.Value.int Go.IntKind.i64 0))), (5, (.v (Go.Value.int Go.IntKind.u32 0))), (4, r2.1), (3, r1.1), (0, a0), (1, a1)], r6.2⟩)) ((pv r4.2 (indexAddrA Try.prog 32 r1.1 (.v (Go.Value.int Go.IntKind.i64 54)))).bind fun r7 =>
  (pv r7.2 (loadA Try.prog 5 r7.2 r7.1)).bind fun r8 =>
  (convA Try.prog r8.2 5 3 r8.1).bind fun r9 =>
  (pv r9.2 (binA Try.prog .neq 3 r9.1 a0)).bind fun r10 =>
  (gsel false r10.2 (pv r10.2 (loadA Try.prog 32 r10.2 r1.1)) r10.1).bind fun r11 =>
  (gsel false r11.2 (callA E md0 r11.2 44 [r11.1]) r10.1).bind fun r12 =>
  (gsel false r12.2 (pv r12.2 (unA .not r12.1)) r10.1).bind fun r13 =>
  (pv r13.2 (pickA r10.1 (.v (Go.Value.bool true)) r13.1)).bind fun r14 =>
  condA r14.1 ((pv r14.2 (buildA Try.prog 25 [])).bind fun r15 =>
  (stA Try.prog 25 r15.2 r2.1 r15.1).bind fun r16 =>
  some (.ret, ⟨[(6, (.v (Go.Value.int Go.IntKind.i64 21))), (5, (.v (Go.Value.int Go.IntKind.u32 0))), (12, r14.1), (7, r4.1), (6, (.v (Go.Value.int Go.IntKind.i64 0))), (5, (.v (Go.Value.int Go.IntKind.u32 0))), (4, r2.1), (3, r1.1), (0, a0), (1, a1)], r16.2⟩)) ((pv r14.2 (sliceA Try.prog r14.2 32 r1.1 none (some (.v (Go.Value.int Go.IntKind.i64 54))) none)).bind fun r17 =>
  (pv r17.2 (arrPtrA Try.prog 25 r17.1)).bind fun r18 =>
  (pv r18.2 (loadA Try.prog 25 r18.2 r18.1)).bind fun r19 =>
  (pv r19.2 (loadA Try.prog 32 r19.2 r1.1)).bind fun r20 =>
  (callA E md0 r20.2 45 [r20.1]).bind fun r21 =>
  (stA Try.prog 25 r21.2 r2.1 r19.1).bind fun r22 =>
  some (.ret, ⟨[(6, (.v (Go.Value.int Go.IntKind.i64 0))), (5, r21.1), (12, r14.1), (7, r4.1), (6, (.v (Go.Value.int Go.IntKind.i64 0))), (5, (.v (Go.Value.int Go.IntKind.u32 0))), (4, r2.1), (3, r1.1), (0, a0), (1, a1)], r22.2⟩)))
theorem c_seal_Get_eq : Try.f31.body = some c_seal_Get := by kernel_rfl
theorem d_seal_Get : drawsOk Try.prog md0 c_seal_Get = true := by kernel_rfl
theorem F_seal_Get_eq (E : FnA) (n n0 : Nat) (a0 a1 : AV) (bx : Bx) : evK Try.prog md0 E 29 kp_seal_Get n n0 c_seal_Get ⟨[(0, a0), (1, a1)], bx⟩ (fun s => some (.normal, s)) (fun i s => some (.exit i, s)) = F_seal_Get E n n0 a0 a1 bx := by kernel_rfl

theorem E_seal_Get (n : Nat) (a0 a1 : AV) (bx : Bx) : evFn cx0 ext0 (n + 1) 31 [a0, a1] bx = fin Try.prog [.cell 4 25, .tmp 5, .tmp 6] (F_seal_Get (evFn cx0 ext0 n) n bx.length a0 a1 bx) := by
  rw [evFn_eq2 (cx := cx0) (c := c_seal_Get) rfl Try.func31 c_seal_Get_eq (of_decide_eq_true (by kernel_rfl)) d_seal_Get (of_decide_eq_true (by kernel_rfl))]
  exact congrArg (fin Try.prog [.cell 4 25, .tmp 5, .tmp 6]) (F_seal_Get_eq (evFn cx0 ext0 n) n bx.length a0 a1 bx)

/-- scupper/scupperref08.one -/
def kp_r08_one : Option (List Nat) := some [0, 1, 2, 4, 5, 6, 8, 9, 10, 18]
noncomputable def c_r08_one : Code := Try.f32.body.getD .skip
noncomputable def F_r08_one (E : FnA) (_n _n0 : Nat) (a0 a1 : AV) (bx : Bx) : Option (Ex × S) :=
  (boxA bx a0).bind fun r1 =>
  (allocA Try.prog r1.2 23).bind fun r2 =>
  (pv r2.2 (loadA Try.prog 32 r2.2 r1.1)).bind fun r3 =>
  (callA E md0 r3.2 19 [(.v (Go.Value.int Go.IntKind.i64 1)), r3.1]).bind fun r4 =>
  (pv r4.2 (tupA r4.1 0)).bind fun r5 =>
  (pv r5.2 (tupA r4.1 1)).bind fun r6 =>
  (pv r6.2 (tupA r4.1 2)).bind fun r7 =>
  (allocA Try.prog r7.2 25).bind fun r8 =>
  (stA Try.prog 25 r8.2 r8.1 r5.1).bind fun r9 =>
  (pv r9.2 (binA Try.prog .neq 26 r7.1 (.v (Go.Value.int Go.IntKind.i64 0)))).bind fun r10 =>
  condA r10.1 ((pv r10.2 (buildA Try.prog 23 [])).bind fun r11 =>
  (stA Try.prog 23 r11.2 r2.1 r11.1).bind fun r12 =>
  some (.ret, ⟨[(5, (.v (Go.Value.bool false))), (18, r10.1), (8, r7.1), (6, r8.1), (5, (.v (Go.Value.bool false))), (4, r2.1), (2, r1.1), (0, a0), (1, a1)], r12.2⟩)) ((pv r10.2 (loadA Try.prog 25 r10.2 r8.1)).bind fun r13 =>
  (callA E md0 r13.2 10 [r13.1]).bind fun r14 =>
  (pv r14.2 (tupA r14.1 0)).bind fun r15 =>
  (pv r15.2 (tupA r14.1 1)).bind fun r16 =>
  (allocA Try.prog r16.2 23).bind fun r17 =>
  (stA Try.prog 23 r17.2 r17.1 r15.1).bind fun r18 =>
  (pv r18.2 (loadA Try.prog 23 r18.2 r17.1)).bind fun r19 =>
  (pv r19.2 (binA Try.prog .eql 26 r16.1 (.v (Go.Value.int Go.IntKind.i64 0)))).bind fun r20 =>
  (gsel true r20.2 (pv r20.2 (loadA Try.prog 23 r20.2 r17.1)) r20.1).bind fun r21 =>
  (gsel true r21.2 (callA E md0 r21.2 46 [r21.1]) r20.1).bind fun r22 =>
  (gsel true r22.2 (some (a1, r22.2)) r20.1).bind fun r23 =>
  (gsel true r23.2 (pv r23.2 (binA Try.prog .eql 3 r22.1 r23.1)) r20.1).bind fun r24 =>
  (pv r24.2 (pickA r20.1 r24.1 (.v (Go.Value.bool false)))).bind fun r25 =>
  (stA Try.prog 23 r25.2 r2.1 r19.1).bind fun r26 =>
  some (.ret, ⟨[(5, r25.1), (10, r16.1), (9, r17.1), (18, r10.1), (8, r7.1), (6, r8.1), (5, (.v (Go.Value.bool false))), (4, r2.1), (2, r1.1), (0, a0), (1, a1)], r26.2⟩))
theorem c_r08_one_eq : Try.f32.body = some c_r08_one := by kernel_rfl
theorem d_r08_one : drawsOk Try.prog md0 c_r08_one = true := by kernel_rfl
theorem F_r08_one_eq (E : FnA) (n n0 : Nat) (a0 a1 : AV) (bx : Bx) : evK Try.prog md0 E 34 kp_r08_one n n0 c_r08_one ⟨[(0, a0), (1, a1)], bx⟩ (fun s => some (.normal, s)) (fun i s => some (.exit i, s)) = F_r08_one E n n0 a0 a1 bx := by kernel_rfl

theorem E_r08_one (n : Nat) (a0 a1 : AV) (bx : Bx) : evFn cx0 ext0 (n + 1) 32 [a0, a1] bx = fin Try.prog [.cell 4 23, .tmp 5] (F_r08_one (evFn cx0 ext0 n) n bx.length a0 a1 bx) := by
  rw [evFn_eq2 (cx := cx0) (c := c_r08_one) rfl Try.func32 c_r08_one_eq (of_decide_eq_true (by kernel_rfl)) d_r08_one (of_decide_eq_true (by kernel_rfl))]
  exact congrArg (fin Try.prog [.cell 4 23, .tmp 5]) (F_r08_one_eq (evFn cx0 ext0 n) n bx.length a0 a1 bx)

/-- scupper/seal.Next -/
def kp_seal_Next : Option (List Nat) := some [0, 1, 2, 4, 5, 6, 7, 8, 10]
noncomputable def c_seal_Next : Code := Try.f33.body.getD .skip
noncomputable def F_seal_Next (E : FnA) (_n _n0 : Nat) (a0 a1 a2 : AV) (bx : Bx) : Option (Ex × S) :=
  (boxA bx a1).bind fun r1 =>
  (boxA r1.2 a2).bind fun r2 =>
  (allocA Try.prog r2.2 32).bind fun r3 =>
  (pv r3.2 (loadA Try.prog 32 r3.2 r1.1)).bind fun r4 =>
  (callA E md0 r4.2 44 [r4.1]).bind fun r5 =>
  condA r5.1 ((pv r5.2 (loadA Try.prog 32 r5.2 r1.1)).bind fun r6 =>
  (callA E md0 r6.2 45 [r6.1]).bind fun r7 =>
  (pv r7.2 (binA Try.prog .add 36 (.v (Go.Value.int Go.IntKind.u32 1)) r7.1)).bind fun r8 =>
  (pv r8.2 (loadA Try.prog 25 r8.2 r2.1)).bind fun r9 =>
  (callA E md0 r9.2 27 [a0, r8.1, r9.1]).bind fun r10 =>
  (pv r10.2 (tupA r10.1 0)).bind fun r11 =>
  (pv r11.2 (tupA r10.1 1)).bind fun r12 =>
  (stA Try.prog 32 r12.2 r3.1 r11.1).bind fun r13 =>
  some (.ret, ⟨[(7, r12.1), (8, r8.1), (10, r5.1), (8, (.v (Go.Value.int Go.IntKind.u32 1))), (7, (.v (Go.Value.int Go.IntKind.i64 0))), (6, r3.1), (5, r2.1), (4, r1.1), (0, a0), (1, a1), (2, a2)], r13.2⟩)) ((pv r5.2 (loadA Try.prog 25 r5.2 r2.1)).bind fun r14 =>
  (callA E md0 r14.2 27 [a0, (.v (Go.Value.int Go.IntKind.u32 1)), r14.1]).bind fun r15 =>
  (pv r15.2 (tupA r15.1 0)).bind fun r16 =>
  (pv r16.2 (tupA r15.1 1)).bind fun r17 =>
  (stA Try.prog 32 r17.2 r3.1 r16.1).bind fun r18 =>
  some (.ret, ⟨[(7, r17.1), (10, r5.1), (8, (.v (Go.Value.int Go.IntKind.u32 1))), (7, (.v (Go.Value.int Go.IntKind.i64 0))), (6, r3.1), (5, r2.1), (4, r1.1), (0, a0), (1, a1), (2, a2)], r18.2⟩))
theorem c_seal_Next_eq : Try.f33.body = some c_seal_Next := by kernel_rfl
theorem d_seal_Next : drawsOk Try.prog md0 c_seal_Next = true := by kernel_rfl
theorem F_seal_Next_eq (E : FnA) (n n0 : Nat) (a0 a1 a2 : AV) (bx : Bx) : evK Try.prog md0 E 21 kp_seal_Next n n0 c_seal_Next ⟨[(0, a0), (1, a1), (2, a2)], bx⟩ (fun s => some (.normal, s)) (fun i s => some (.exit i, s)) = F_seal_Next E n n0 a0 a1 a2 bx := by kernel_rfl

theorem E_seal_Next (n : Nat) (a0 a1 a2 : AV) (bx : Bx) : evFn cx0 ext0 (n + 1) 33 [a0, a1, a2] bx = fin Try.prog [.cell 6 32, .tmp 7] (F_seal_Next (evFn cx0 ext0 n) n bx.length a0 a1 a2 bx) := by
  rw [evFn_eq2 (cx := cx0) (c := c_seal_Next) rfl Try.func33 c_seal_Next_eq (of_decide_eq_true (by kernel_rfl)) d_seal_Next (of_decide_eq_true (by kernel_rfl))]
  exact congrArg (fin Try.prog [.cell 6 32, .tmp 7]) (F_seal_Next_eq (evFn cx0 ext0 n) n bx.length a0 a1 a2 bx)

/-- scupper/scupperref07.Next -/
def kp_r07_Next : Option (List Nat) := some [0, 1, 2, 4, 5, 6, 7, 8, 9, 13]
noncomputable def c_r07_Next : Code := Try.f34.body.getD .skip
noncomputable def F_r07_Next (E : FnA) (_n _n0 : Nat) (a0 a1 a2 : AV) (bx : Bx) : Option (Ex × S) :=
  (boxA bx a1).bind fun r1 =>
  (boxA r1.2 a2).bind fun r2 =>
  (allocA Try.prog r2.2 32).bind fun r3 =>
  (pv r3.2 (loadA Try.prog 32 r3.2 r1.1)).bind fun r4 =>
  (callA E md0 r4.2 47 [r4.1]).bind fun r5 =>
  (pv r5.2 (binA Try.prog .neq 3 r5.1 (.v (Go.Value.int Go.IntKind.i64 0)))).bind fun r6 =>
  condA r6.1 ((pv r6.2 (loadA Try.prog 32 r6.2 r1.1)).bind fun r7 =>
  (callA E md0 r7.2 19 [r5.1, r7.1]).bind fun r8 =>
  (pv r8.2 (tupA r8.1 0)).bind fun r9 =>
  (pv r9.2 (tupA r8.1 1)).bind fun r10 =>
  (pv r10.2 (tupA r8.1 2)).bind fun r11 =>
  (pv r11.2 (binA Try.prog .add 36 r10.1 (.v (Go.Value.int Go.IntKind.u32 1)))).bind fun r12 =>
  (pv r12.2 (loadA Try.prog 25 r12.2 r2.1)).bind fun r13 =>
  (callA E md0 r13.2 12 [a0, r12.1, r13.1]).bind fun r14 =>
  (pv r14.2 (tupA r14.1 0)).bind fun r15 =>
  (pv r15.2 (tupA r14.1 1)).bind fun r16 =>
  (stA Try.prog 32 r16.2 r3.1 r15.1).bind fun r17 =>
  some (.ret, ⟨[(7, r16.1), (8, r10.1), (13, r6.1), (9, r5.1), (8, (.v (Go.Value.int Go.IntKind.u32 0))), (7, (.v (Go.Value.int Go.IntKind.i64 0))), (6, r3.1), (5, r2.1), (4, r1.1), (0, a0), (1, a1), (2, a2)], r17.2⟩)) ((pv r6.2 (binA Try.prog .add 36 (.v (Go.Value.int Go.IntKind.u32 0)) (.v (Go.Value.int Go.IntKind.u32 1)))).bind fun r18 =>
  (pv r18.2 (loadA Try.prog 25 r18.2 r2.1)).bind fun r19 =>
  (callA E md0 r19.2 12 [a0, r18.1, r19.1]).bind fun r20 =>
  (pv r20.2 (tupA r20.1 0)).bind fun r21 =>
  (pv r21.2 (tupA r20.1 1)).bind fun r22 =>
  (stA Try.prog 32 r22.2 r3.1 r21.1).bind fun r23 =>
  some (.ret, ⟨[(7, r22.1), (13, r6.1), (9, r5.1), (8, (.v (Go.Value.int Go.IntKind.u32 0))), (7, (.v (Go.Value.int Go.IntKind.i64 0))), (6, r3.1), (5, r2.1), (4, r1.1), (0, a0), (1, a1), (2, a2)], r23.2⟩))
theorem c_r07_Next_eq : Try.f34.body = some c_r07_Next := by kernel_rfl
theorem d_r07_Next : drawsOk Try.prog md0 c_r07_Next = true := by kernel_rfl
theorem F_r07_Next_eq (E : FnA) (n n0 : Nat) (a0 a1 a2 : AV) (bx : Bx) : evK Try.prog md0 E 28 kp_r07_Next n n0 c_r07_Next ⟨[(0, a0), (1, a1), (2, a2)], bx⟩ (fun s => some (.normal, s)) (fun i s => some (.exit i, s)) = F_r07_Next E n n0 a0 a1 a2 bx := by kernel_rfl

theorem E_r07_Next (n : Nat) (a0 a1 a2 : AV) (bx : Bx) : evFn cx0 ext0 (n + 1) 34 [a0, a1, a2] bx = fin Try.prog [.cell 6 32, .tmp 7] (F_r07_Next (evFn cx0 ext0 n) n bx.length a0 a1 a2 bx) := by
  rw [evFn_eq2 (cx := cx0) (c := c_r07_Next) rfl Try.func34 c_r07_Next_eq (of_decide_eq_true (by kernel_rfl)) d_r07_Next (of_decide_eq_true (by kernel_rfl))]
  exact congrArg (fin Try.prog [.cell 6 32, .tmp 7]) (F_r07_Next_eq (evFn cx0 ext0 n) n bx.length a0 a1 a2 bx)

/-- scupper/scupperref01.Get32 -/
def kp_r01_Get32 : Option (List Nat) := some [0, 1, 4, 5, 6, 7]
noncomputable def c_r01_Get32 : Code := Try.f35.body.getD .skip
noncomputable def F_r01_Get32 (E : FnA) (_n _n0 : Nat) (a0 a1 : AV) (bx : Bx) : Option (Ex × S) :=
  (callA E md0 bx 39 [a0, a1, (.v (Go.Value.int Go.IntKind.i64 4))]).bind fun r1 =>
  (pv r1.2 (tupA r1.1 0)).bind fun r2 =>
  (pv r2.2 (tupA r1.1 1)).bind fun r3 =>
  (convA Try.prog r3.2 77 36 r2.1).bind fun r4 =>
  some (.ret, ⟨[(5, r3.1), (4, r4.1), (7, r3.1), (6, r2.1), (5, (.v (Go.Value.int Go.IntKind.i64 0))), (4, (.v (Go.Value.int Go.IntKind.u32 0))), (0, a0), (1, a1)], r4.2⟩)
theorem c_r01_Get32_eq : Try.f35.body = some c_r01_Get32 := by kernel_rfl
theorem d_r01_Get32 : drawsOk Try.prog md0 c_r01_Get32 = true := by kernel_rfl
theorem F_r01_Get32_eq (E : FnA) (n n0 : Nat) (a0 a1 : AV) (bx : Bx) : evK Try.prog md0 E 17 kp_r01_Get32 n n0 c_r01_Get32 ⟨[(0, a0), (1, a1)], bx⟩ (fun s => some (.normal, s)) (fun i s => some (.exit i, s)) = F_r01_Get32 E n n0 a0 a1 bx := by kernel_rfl

theorem E_r01_Get32 (n : Nat) (a0 a1 : AV) (bx : Bx) : evFn cx0 ext0 (n + 1) 35 [a0, a1] bx = fin Try.prog [.tmp 4, .tmp 5] (F_r01_Get32 (evFn cx0 ext0 n) n bx.length a0 a1 bx) := by
  rw [evFn_eq2 (cx := cx0) (c := c_r01_Get32) rfl Try.func35 c_r01_Get32_eq (of_decide_eq_true (by kernel_rfl)) d_r01_Get32 (of_decide_eq_true (by kernel_rfl))]
  exact congrArg (fin Try.prog [.tmp 4, .tmp 5]) (F_r01_Get32_eq (evFn cx0 ext0 n) n bx.length a0 a1 bx)

/-- scupper/geom.size -/
def kp_geom_size : Option (List Nat) := some [0, 1, 2]
noncomputable def c_geom_size : Code := Try.f36.body.getD .skip
noncomputable def F_geom_size (_E : FnA) (_n _n0 : Nat) (a0 : AV) (bx : Bx) : Option (Ex × S) :=
  (boxA bx a0).bind fun r1 =>
  (pv r1.2 (fieldAddrA Try.prog 23 r1.1 1)).bind fun r2 =>
  (pv r2.2 (loadA Try.prog 3 r2.2 r2.1)).bind fun r3 =>
  (pv r3.2 (binA Try.prog .add 3 (.v (Go.Value.int Go.IntKind.i64 2)) r3.1)).bind fun r4 =>
  (pv r4.2 (fieldAddrA Try.prog 23 r1.1 2)).bind fun r5 =>
  (pv r5.2 (loadA Try.prog 3 r5.2 r5.1)).bind fun r6 =>
  (pv r6.2 (binA Try.prog .add 3 r4.1 r6.1)).bind fun r7 =>
  some (.ret, ⟨[(2, r7.1), (2, (.v (Go.Value.int Go.IntKind.i64 0))), (1, r1.1), (0, a0)], r7.2⟩)
theorem c_geom_size_eq : Try.f36.body = some c_geom_size := by kernel_rfl
theorem d_geom_size : drawsOk Try.prog md0 c_geom_size = true := by kernel_rfl
theorem F_geom_size_eq (E : FnA) (n n0 : Nat) (a0 : AV) (bx : Bx) : evK Try.prog md0 E 9 kp_geom_size n n0 c_geom_size ⟨[(0, a0)], bx⟩ (fun s => some (.normal, s)) (fun i s => some (.exit i, s)) = F_geom_size E n n0 a0 bx := by kernel_rfl

theorem E_geom_size (n : Nat) (a0 : AV) (bx : Bx) : evFn cx0 ext0 (n + 1) 36 [a0] bx = fin Try.prog [.tmp 2] (F_geom_size (evFn cx0 ext0 n) n bx.length a0 bx) := by
  rw [evFn_eq2 (cx := cx0) (c := c_geom_size) rfl Try.func36 c_geom_size_eq (of_decide_eq_true (by kernel_rfl)) d_geom_size (of_decide_eq_true (by kernel_rfl))]
  exact congrArg (fin Try.prog [.tmp 2]) (F_geom_size_eq (evFn cx0 ext0 n) n bx.length a0 bx)

/-- scupper/geom.Check$1 -/
def kp_geom_Check_1 : Option (List Nat) := some [0, 1, 2, 6]
noncomputable def c_geom_Check_1 : Code := Try.f37.body.getD .skip
noncomputable def F_geom_Check_1 (_E : FnA) (_n _n0 : Nat) (a0 a1 a2 : AV) (bx : Bx) : Option (Ex × S) :=
  (pv bx (binA Try.prog .geq 3 a0 a1)).bind fun r1 =>
  (gsel true r1.2 (some (a0, r1.2)) r1.1).bind fun r2 =>
  (gsel true r2.2 (some (a2, r2.2)) r1.1).bind fun r3 =>
  (gsel true r3.2 (pv r3.2 (binA Try.prog .leq 3 r2.1 r3.1)) r1.1).bind fun r4 =>
  (pv r4.2 (pickA r1.1 r4.1 (.v (Go.Value.bool false)))).bind fun r5 =>
  some (.ret, ⟨[(6, r5.1), (6, (.v (Go.Value.bool false))), (0, a0), (1, a1), (2, a2)], r5.2⟩)
theorem c_geom_Check_1_eq : Try.f37.body = some c_geom_Check_1 := by kernel_rfl
theorem d_geom_Check_1 : drawsOk Try.prog md0 c_geom_Check_1 = true := by kernel_rfl
theorem F_geom_Check_1_eq (E : FnA) (n n0 : Nat) (a0 a1 a2 : AV) (bx : Bx) : evK Try.prog md0 E 15 kp_geom_Check_1 n n0 c_geom_Check_1 ⟨[(0, a0), (1, a1), (2, a2)], bx⟩ (fun s => some (.normal, s)) (fun i s => some (.exit i, s)) = F_geom_Check_1 E n n0 a0 a1 a2 bx := by kernel_rfl

theorem E_geom_Check_1 (n : Nat) (a0 a1 a2 : AV) (bx : Bx) : evFn cx0 ext0 (n + 1) 37 [a0, a1, a2] bx = fin Try.prog [.tmp 6] (F_geom_Check_1 (evFn cx0 ext0 n) n bx.length a0 a1 a2 bx) := by
  rw [evFn_eq2 (cx := cx0) (c := c_geom_Check_1) rfl Try.func37 c_geom_Check_1_eq (of_decide_eq_true (by kernel_rfl)) d_geom_Check_1 (of_decide_eq_true (by kernel_rfl))]
  exact congrArg (fin Try.prog [.tmp 6]) (F_geom_Check_1_eq (evFn cx0 ext0 n) n bx.length a0 a1 a2 bx)

/-- scupper/num.get -/
def kp_num_get : Option (List Nat) := some [0, 1, 2, 6, 7, 8, 9, 25, 26, 27, 28]
noncomputable def c_num_get : Code := Try.f38.body.getD .skip
noncomputable def L_num_get_0 (_E : FnA) (_n _n0 : Nat) (s : S) : Option (Ex × S) :=
  (pv s.bx (binA Try.prog .lss 3 (get s.env 27) (get s.env 26))).bind fun r23 =>
  condA r23.1 ((pv r23.2 (binA Try.prog .add 3 (get (prune kp_num_get (prune kp_num_get s.env)) 1) (get (prune kp_num_get s.env) 27))).bind fun r24 =>
  (pv r24.2 (indexAddrA Try.prog 58 (get (prune kp_num_get (prune kp_num_get s.env)) 0) r24.1)).bind fun r25 =>
  (pv r25.2 (loadA Try.prog 5 r25.2 r25.1)).bind fun r26 =>
  (convA Try.prog r26.2 5 36 r26.1).bind fun r27 =>
  (pv r27.2 (binA Try.prog .mul 3 (.v (Go.Value.int Go.IntKind.i64 8)) (get (prune kp_num_get s.env) 27))).bind fun r28 =>
  (pv r28.2 (binA Try.prog .shl 36 r27.1 r28.1)).bind fun r29 =>
  (pv r29.2 (binA Try.prog .or 36 (get (prune kp_num_get (prune kp_num_get s.env)) 8) r29.1)).bind fun r30 =>
  (pv r30.2 (binA Try.prog .add 3 (get (prune kp_num_get (prune kp_num_get (prune kp_num_get s.env))) 27) (.v (Go.Value.int Go.IntKind.i64 1)))).bind fun r31 =>
  some (.normal, ⟨((27, r31.1) :: (8, r30.1) :: (9, (get (prune kp_num_get s.env) 27)) :: (28, r23.1) :: (prune kp_num_get (prune kp_num_get (prune kp_num_get (prune kp_num_get s.env))))), r31.2⟩)) (some (.exit 0, ⟨((28, r23.1) :: (prune kp_num_get s.env)), r23.2⟩))
noncomputable def B_num_get_0 (_E : FnA) (_n _n0 : Nat) (x27 x26 x8 x25 x7 x6 x0 x1 x2 : AV) (y : Bx) : Option (Ex × S) :=
  (pv y (binA Try.prog .lss 3 x27 x26)).bind fun r14 =>
  condA r14.1 ((pv r14.2 (binA Try.prog .add 3 x1 x27)).bind fun r15 =>
  (pv r15.2 (indexAddrA Try.prog 58 x0 r15.1)).bind fun r16 =>
  (pv r16.2 (loadA Try.prog 5 r16.2 r16.1)).bind fun r17 =>
  (convA Try.prog r17.2 5 36 r17.1).bind fun r18 =>
  (pv r18.2 (binA Try.prog .mul 3 (.v (Go.Value.int Go.IntKind.i64 8)) x27)).bind fun r19 =>
  (pv r19.2 (binA Try.prog .shl 36 r18.1 r19.1)).bind fun r20 =>
  (pv r20.2 (binA Try.prog .or 36 x8 r20.1)).bind fun r21 =>
  (pv r21.2 (binA Try.prog .add 3 x27 (.v (Go.Value.int Go.IntKind.i64 1)))).bind fun r22 =>
  some (.normal, ⟨[(27, r22.1), (8, r21.1), (9, x27), (28, r14.1), (27, x27), (26, x26), (8, x8), (25, x25), (7, x7), (6, x6), (0, x0), (1, x1), (2, x2)], r22.2⟩)) (some (.exit 0, ⟨[(28, r14.1), (27, x27), (26, x26), (8, x8), (25, x25), (7, x7), (6, x6), (0, x0), (1, x1), (2, x2)], r14.2⟩))
theorem L_num_get_0_lit {E : FnA} {n n0 : Nat} {x27 x26 x8 x25 x7 x6 x0 x1 x2 : AV} {y : Bx} {Q : Ex → S → Prop} (h : Ends (B_num_get_0 E n n0 x27 x26 x8 x25 x7 x6 x0 x1 x2 y) Q) : Ends (L_num_get_0 E n n0 ⟨[(27, x27), (26, x26), (8, x8), (25, x25), (7, x7), (6, x6), (0, x0), (1, x1), (2, x2)], y⟩) Q := by
  rw [show L_num_get_0 E n n0 ⟨[(27, x27), (26, x26), (8, x8), (25, x25), (7, x7), (6, x6), (0, x0), (1, x1), (2, x2)], y⟩ = B_num_get_0 E n n0 x27 x26 x8 x25 x7 x6 x0 x1 x2 y by kernel_rfl]
  exact h
noncomputable def K_num_get_0 (_E : FnA) (_n _n0 : Nat) (t : S) : Option (Ex × S) :=
  some (.ret, ⟨((7, (.v (Go.Value.int Go.IntKind.i64 0))) :: (6, (get t.env 8)) :: (prune kp_num_get t.env)), t.bx⟩)
noncomputable def X_num_get_0 (_E : FnA) (_n _n0 : Nat) (i : Nat) (t : S) : Option (Ex × S) :=
  if i = 0 then some (.ret, ⟨((7, (.v (Go.Value.int Go.IntKind.i64 0))) :: (6, (get t.env 8)) :: (prune kp_num_get t.env)), t.bx⟩) else some (.exit i, ⟨t.env, t.bx⟩)
noncomputable def X_num_get_0_0 (_E : FnA) (_n _n0 : Nat) (x28 x27 x26 x8 x25 x7 x6 x0 x1 x2 : AV) (y : Bx) : Option (Ex × S) :=
  some (.ret, ⟨[(7, (.v (Go.Value.int Go.IntKind.i64 0))), (6, x8), (28, x28), (27, x27), (26, x26), (8, x8), (25, x25), (7, x7), (6, x6), (0, x0), (1, x1), (2, x2)], y⟩)
theorem X_num_get_0_0_lit {E : FnA} {n n0 : Nat} {x28 x27 x26 x8 x25 x7 x6 x0 x1 x2 : AV} {y : Bx} {Q : Ex → S → Prop} (h : Ends (X_num_get_0_0 E n n0 x28 x27 x26 x8 x25 x7 x6 x0 x1 x2 y) Q) : Ends (X_num_get_0 E n n0 0 ⟨[(28, x28), (27, x27), (26, x26), (8, x8), (25, x25), (7, x7), (6, x6), (0, x0), (1, x1), (2, x2)], y⟩) Q := by
  rw [show X_num_get_0 E n n0 0 ⟨[(28, x28), (27, x27), (26, x26), (8, x8), (25, x25), (7, x7), (6, x6), (0, x0), (1, x1), (2, x2)], y⟩ = X_num_get_0_0 E n n0 x28 x27 x26 x8 x25 x7 x6 x0 x1 x2 y by kernel_rfl]
  exact h
noncomputable def F_num_get (E : FnA) (n n0 : Nat) (a0 a1 a2 : AV) (bx : Bx) : Option (Ex × S) :=
  (pv bx (binA Try.prog .lss 3 a1 (.v (Go.Value.int Go.IntKind.i64 0)))).bind fun r1 =>
  (gsel false r1.2 (some (a1, r1.2)) r1.1).bind fun r2 =>
  (gsel false r2.2 (some (a0, r2.2)) r1.1).bind fun r3 =>
  (gsel false r3.2 (pv r3.2 (lenA Try.prog 58 r3.1)) r1.1).bind fun r4 =>
  (gsel false r4.2 (pv r4.2 (binA Try.prog .gtr 3 r2.1 r4.1)) r1.1).bind fun r5 =>
  (pv r5.2 (pickA r1.1 (.v (Go.Value.bool true)) r5.1)).bind fun r6 =>
  (gsel false r6.2 (some (a0, r6.2)) r6.1).bind fun r7 =>
  (gsel false r7.2 (pv r7.2 (lenA Try.prog 58 r7.1)) r6.1).bind fun r8 =>
  (gsel false r8.2 (some (a1, r8.2)) r6.1).bind fun r9 =>
  (gsel false r9.2 (pv r9.2 (binA Try.prog .sub 3 r8.1 r9.1)) r6.1).bind fun r10 =>
  (gsel false r10.2 (some (a2, r10.2)) r6.1).bind fun r11 =>
  (gsel false r11.2 (pv r11.2 (binA Try.prog .lss 3 r10.1 r11.1)) r6.1).bind fun r12 =>
  (pv r12.2 (pickA r6.1 (.v (Go.Value.bool true)) r12.1)).bind fun r13 =>
  condA r13.1 (some (.ret, ⟨[(7, (.v (Go.Value.int Go.IntKind.i64 7))), (6, (.v (Go.Value.int Go.IntKind.u32 0))), (25, r13.1), (7, (.v (Go.Value.int Go.IntKind.i64 0))), (6, (.v (Go.Value.int Go.IntKind.u32 0))), (0, a0), (1, a1), (2, a2)], r13.2⟩)) (exitA (iter ⟨[(27, (.v (Go.Value.int Go.IntKind.i64 0))), (26, a2), (8, (.v (Go.Value.int Go.IntKind.u32 0))), (25, r13.1), (7, (.v (Go.Value.int Go.IntKind.i64 0))), (6, (.v (Go.Value.int Go.IntKind.u32 0))), (0, a0), (1, a1), (2, a2)], r13.2⟩ (L_num_get_0 E n n0) n ⟨[(27, (.v (Go.Value.int Go.IntKind.i64 0))), (26, a2), (8, (.v (Go.Value.int Go.IntKind.u32 0))), (25, r13.1), (7, (.v (Go.Value.int Go.IntKind.i64 0))), (6, (.v (Go.Value.int Go.IntKind.u32 0))), (0, a0), (1, a1), (2, a2)], r13.2⟩) (K_num_get_0 E n n0) (X_num_get_0 E n n0))
theorem c_num_get_eq : Try.f38.body = some c_num_get := by kernel_rfl
theorem d_num_get : drawsOk Try.prog md0 c_num_get = true := by kernel_rfl
theorem F_num_get_eq (E : FnA) (n n0 : Nat) (a0 a1 a2 : AV) (bx : Bx) : evK Try.prog md0 E 44 kp_num_get n n0 c_num_get ⟨[(0, a0), (1, a1), (2, a2)], bx⟩ (fun s => some (.normal, s)) (fun i s => some (.exit i, s)) = F_num_get E n n0 a0 a1 a2 bx := by kernel_rfl

theorem E_num_get (n : Nat) (a0 a1 a2 : AV) (bx : Bx) : evFn cx0 ext0 (n + 1) 38 [a0, a1, a2] bx = fin Try.prog [.tmp 6, .tmp 7] (F_num_get (evFn cx0 ext0 n) n bx.length a0 a1 a2 bx) := by
  rw [evFn_eq2 (cx := cx0) (c := c_num_get) rfl Try.func38 c_num_get_eq (of_decide_eq_true (by kernel_rfl)) d_num_get (of_decide_eq_true (by kernel_rfl))]
  exact congrArg (fin Try.prog [.tmp 6, .tmp 7]) (F_num_get_eq (evFn cx0 ext0 n) n bx.length a0 a1 a2 bx)

/-- scupper/scupperref01.number -/
def kp_r01_number : Option (List Nat) := some [0, 1, 2, 6, 7, 8, 9, 25, 29]
noncomputable def c_r01_number : Code := Try.f39.body.getD .skip
noncomputable def L_r01_number_0 (_E : FnA) (_n _n0 : Nat) (s : S) : Option (Ex × S) :=
  (pv s.bx (binA Try.prog .geq 3 (get s.env 9) (.v (Go.Value.int Go.IntKind.i64 0)))).bind fun r23 =>
  condA r23.1 ((pv r23.2 (binA Try.prog .mul 77 (.v (Go.Value.int Go.IntKind.u64 256)) (get (prune kp_r01_number s.env) 8))).bind fun r24 =>
  (pv r24.2 (binA Try.prog .add 3 (get (prune kp_r01_number s.env) 1) (get (prune kp_r01_number s.env) 9))).bind fun r25 =>
  (pv r25.2 (indexAddrA Try.prog 58 (get (prune kp_r01_number s.env) 0) r25.1)).bind fun r26 =>
  (pv r26.2 (loadA Try.prog 5 r26.2 r26.1)).bind fun r27 =>
  (convA Try.prog r27.2 5 77 r27.1).bind fun r28 =>
  (pv r28.2 (binA Try.prog .add 77 r24.1 r28.1)).bind fun r29 =>
  (pv r29.2 (binA Try.prog .sub 3 (get (prune kp_r01_number (prune kp_r01_number s.env)) 9) (.v (Go.Value.int Go.IntKind.i64 1)))).bind fun r30 =>
  some (.normal, ⟨((9, r30.1) :: (8, r29.1) :: (29, r23.1) :: (prune kp_r01_number (prune kp_r01_number (prune kp_r01_number s.env)))), r30.2⟩)) (some (.exit 0, ⟨((29, r23.1) :: (prune kp_r01_number s.env)), r23.2⟩))
noncomputable def B_r01_number_0 (_E : FnA) (_n _n0 : Nat) (x9 x8 x25 x7 x6 x0 x1 x2 : AV) (y : Bx) : Option (Ex × S) :=
  (pv y (binA Try.prog .geq 3 x9 (.v (Go.Value.int Go.IntKind.i64 0)))).bind fun r15 =>
  condA r15.1 ((pv r15.2 (binA Try.prog .mul 77 (.v (Go.Value.int Go.IntKind.u64 256)) x8)).bind fun r16 =>
  (pv r16.2 (binA Try.prog .add 3 x1 x9)).bind fun r17 =>
  (pv r17.2 (indexAddrA Try.prog 58 x0 r17.1)).bind fun r18 =>
  (pv r18.2 (loadA Try.prog 5 r18.2 r18.1)).bind fun r19 =>
  (convA Try.prog r19.2 5 77 r19.1).bind fun r20 =>
  (pv r20.2 (binA Try.prog .add 77 r16.1 r20.1)).bind fun r21 =>
  (pv r21.2 (binA Try.prog .sub 3 x9 (.v (Go.Value.int Go.IntKind.i64 1)))).bind fun r22 =>
  some (.normal, ⟨[(9, r22.1), (8, r21.1), (29, r15.1), (9, x9), (8, x8), (25, x25), (7, x7), (6, x6), (0, x0), (1, x1), (2, x2)], r22.2⟩)) (some (.exit 0, ⟨[(29, r15.1), (9, x9), (8, x8), (25, x25), (7, x7), (6, x6), (0, x0), (1, x1), (2, x2)], r15.2⟩))
theorem L_r01_number_0_lit {E : FnA} {n n0 : Nat} {x9 x8 x25 x7 x6 x0 x1 x2 : AV} {y : Bx} {Q : Ex → S → Prop} (h : Ends (B_r01_number_0 E n n0 x9 x8 x25 x7 x6 x0 x1 x2 y) Q) : Ends (L_r01_number_0 E n n0 ⟨[(9, x9), (8, x8), (25, x25), (7, x7), (6, x6), (0, x0), (1, x1), (2, x2)], y⟩) Q := by
  rw [show L_r01_number_0 E n n0 ⟨[(9, x9), (8, x8), (25, x25), (7, x7), (6, x6), (0, x0), (1, x1), (2, x2)], y⟩ = B_r01_number_0 E n n0 x9 x8 x25 x7 x6 x0 x1 x2 y by kernel_rfl]
  exact h
noncomputable def K_r01_number_0 (_E : FnA) (_n _n0 : Nat) (t : S) : Option (Ex × S) :=
  some (.ret, ⟨((7, (.v (Go.Value.int Go.IntKind.i64 0))) :: (6, (get t.env 8)) :: (prune kp_r01_number t.env)), t.bx⟩)
noncomputable def X_r01_number_0 (_E : FnA) (_n _n0 : Nat) (i : Nat) (t : S) : Option (Ex × S) :=
  if i = 0 then some (.ret, ⟨((7, (.v (Go.Value.int Go.IntKind.i64 0))) :: (6, (get t.env 8)) :: (prune kp_r01_number t.env)), t.bx⟩) else some (.exit i, ⟨t.env, t.bx⟩)
noncomputable def X_r01_number_0_0 (_E : FnA) (_n _n0 : Nat) (x29 x9 x8 x25 x7 x6 x0 x1 x2 : AV) (y : Bx) : Option (Ex × S) :=
  some (.ret, ⟨[(7, (.v (Go.Value.int Go.IntKind.i64 0))), (6, x8), (29, x29), (9, x9), (8, x8), (25, x25), (7, x7), (6, x6), (0, x0), (1, x1), (2, x2)], y⟩)
theorem X_r01_number_0_0_lit {E : FnA} {n n0 : Nat} {x29 x9 x8 x25 x7 x6 x0 x1 x2 : AV} {y : Bx} {Q : Ex → S → Prop} (h : Ends (X_r01_number_0_0 E n n0 x29 x9 x8 x25 x7 x6 x0 x1 x2 y) Q) : Ends (X_r01_number_0 E n n0 0 ⟨[(29, x29), (9, x9), (8, x8), (25, x25), (7, x7), (6, x6), (0, x0), (1, x1), (2, x2)], y⟩) Q := by
  rw [show X_r01_number_0 E n n0 0 ⟨[(29, x29), (9, x9), (8, x8), (25, x25), (7, x7), (6, x6), (0, x0), (1, x1), (2, x2)], y⟩ = X_r01_number_0_0 E n n0 x29 x9 x8 x25 x7 x6 x0 x1 x2 y by kernel_rfl]
  exact h
noncomputable def F_r01_number (E : FnA) (n n0 : Nat) (a0 a1 a2 : AV) (bx : Bx) : Option (Ex × S) :=
  (pv bx (binA Try.prog .lss 3 a1 (.v (Go.Value.int Go.IntKind.i64 0)))).bind fun r1 =>
  (gsel false r1.2 (some (a1, r1.2)) r1.1).bind fun r2 =>
  (gsel false r2.2 (some (a0, r2.2)) r1.1).bind fun r3 =>
  (gsel false r3.2 (pv r3.2 (lenA Try.prog 58 r3.1)) r1.1).bind fun r4 =>
  (gsel false r4.2 (pv r4.2 (binA Try.prog .gtr 3 r2.1 r4.1)) r1.1).bind fun r5 =>
  (pv r5.2 (pickA r1.1 (.v (Go.Value.bool true)) r5.1)).bind fun r6 =>
  (gsel false r6.2 (some (a0, r6.2)) r6.1).bind fun r7 =>
  (gsel false r7.2 (pv r7.2 (lenA Try.prog 58 r7.1)) r6.1).bind fun r8 =>
  (gsel false r8.2 (some (a1, r8.2)) r6.1).bind fun r9 =>
  (gsel false r9.2 (pv r9.2 (binA Try.prog .sub 3 r8.1 r9.1)) r6.1).bind fun r10 =>
  (gsel false r10.2 (some (a2, r10.2)) r6.1).bind fun r11 =>
  (gsel false r11.2 (pv r11.2 (binA Try.prog .lss 3 r10.1 r11.1)) r6.1).bind fun r12 =>
  (pv r12.2 (pickA r6.1 (.v (Go.Value.bool true)) r12.1)).bind fun r13 =>
  condA r13.1 (some (.ret, ⟨[(7, (.v (Go.Value.int Go.IntKind.i64 7))), (6, (.v (Go.Value.int Go.IntKind.u64 0))), (25, r13.1), (7, (.v (Go.Value.int Go.IntKind.i64 0))), (6, (.v (Go.Value.int Go.IntKind.u64 0))), (0, a0), (1, a1), (2, a2)], r13.2⟩)) ((pv r13.2 (binA Try.prog .sub 3 a2 (.v (Go.Value.int Go.IntKind.i64 1)))).bind fun r14 =>
  exitA (iter ⟨[(9, r14.1), (8, (.v (Go.Value.int Go.IntKind.u64 0))), (25, r13.1), (7, (.v (Go.Value.int Go.IntKind.i64 0))), (6, (.v (Go.Value.int Go.IntKind.u64 0))), (0, a0), (1, a1), (2, a2)], r14.2⟩ (L_r01_number_0 E n n0) n ⟨[(9, r14.1), (8, (.v (Go.Value.int Go.IntKind.u64 0))), (25, r13.1), (7, (.v (Go.Value.int Go.IntKind.i64 0))), (6, (.v (Go.Value.int Go.IntKind.u64 0))), (0, a0), (1, a1), (2, a2)], r14.2⟩) (K_r01_number_0 E n n0) (X_r01_number_0 E n n0))
theorem c_r01_number_eq : Try.f39.body = some c_r01_number := by kernel_rfl
theorem d_r01_number : drawsOk Try.prog md0 c_r01_number = true := by kernel_rfl
theorem F_r01_number_eq (E : FnA) (n n0 : Nat) (a0 a1 a2 : AV) (bx : Bx) : evK Try.prog md0 E 43 kp_r01_number n n0 c_r01_number ⟨[(0, a0), (1, a1), (2, a2)], bx⟩ (fun s => some (.normal, s)) (fun i s => some (.exit i, s)) = F_r01_number E n n0 a0 a1 a2 bx := by kernel_rfl

theorem E_r01_number (n : Nat) (a0 a1 a2 : AV) (bx : Bx) : evFn cx0 ext0 (n + 1) 39 [a0, a1, a2] bx = fin Try.prog [.tmp 6, .tmp 7] (F_r01_number (evFn cx0 ext0 n) n bx.length a0 a1 a2 bx) := by
  rw [evFn_eq2 (cx := cx0) (c := c_r01_number) rfl Try.func39 c_r01_number_eq (of_decide_eq_true (by kernel_rfl)) d_r01_number (of_decide_eq_true (by kernel_rfl))]
  exact congrArg (fin Try.prog [.tmp 6, .tmp 7]) (F_r01_number_eq (evFn cx0 ext0 n) n bx.length a0 a1 a2 bx)

/-- scupper/seal.may -/
def kp_seal_may : Option (List Nat) := some [0, 2]
noncomputable def c_seal_may : Code := Try.f40.body.getD .skip
noncomputable def F_seal_may (_E : FnA) (_n _n0 : Nat) (a0 : AV) (bx : Bx) : Option (Ex × S) :=
  (pv bx (binA Try.prog .geq 3 a0 (.v (Go.Value.int Go.IntKind.i64 1)))).bind fun r1 =>
  (gsel true r1.2 (some (a0, r1.2)) r1.1).bind fun r2 =>
  (gsel true r2.2 (pv r2.2 (binA Try.prog .leq 3 r2.1 (.v (Go.Value.int Go.IntKind.i64 6)))) r1.1).bind fun r3 =>
  (pv r3.2 (pickA r1.1 r3.1 (.v (Go.Value.bool false)))).bind fun r4 =>
  some (.ret, ⟨[(2, r4.1), (2, (.v (Go.Value.bool false))), (0, a0)], r4.2⟩)
theorem c_seal_may_eq : Try.f40.body = some c_seal_may := by kernel_rfl
theorem d_seal_may : drawsOk Try.prog md0 c_seal_may = true := by kernel_rfl
theorem F_seal_may_eq (E : FnA) (n n0 : Nat) (a0 : AV) (bx : Bx) : evK Try.prog md0 E 9 kp_seal_may n n0 c_seal_may ⟨[(0, a0)], bx⟩ (fun s => some (.normal, s)) (fun i s => some (.exit i, s)) = F_seal_may E n n0 a0 bx := by kernel_rfl

theorem E_seal_may (n : Nat) (a0 : AV) (bx : Bx) : evFn cx0 ext0 (n + 1) 40 [a0] bx = fin Try.prog [.tmp 2] (F_seal_may (evFn cx0 ext0 n) n bx.length a0 bx) := by
  rw [evFn_eq2 (cx := cx0) (c := c_seal_may) rfl Try.func40 c_seal_may_eq (of_decide_eq_true (by kernel_rfl)) d_seal_may (of_decide_eq_true (by kernel_rfl))]
  exact congrArg (fin Try.prog [.tmp 2]) (F_seal_may_eq (evFn cx0 ext0 n) n bx.length a0 bx)

/-- scupper/num.Put32 -/
def kp_num_Put32 : Option (List Nat) := some [0, 2, 3, 4, 5, 6]
noncomputable def c_num_Put32 : Code := Try.f41.body.getD .skip
noncomputable def L_num_Put32_0 (_E : FnA) (_n _n0 : Nat) (s : S) : Option (Ex × S) :=
  (pv s.bx (binA Try.prog .lss 3 (get s.env 5) (.v (Go.Value.int Go.IntKind.i64 4)))).bind fun r10 =>
  condA r10.1 ((pv r10.2 (binA Try.prog .mul 3 (.v (Go.Value.int Go.IntKind.i64 8)) (get (prune kp_num_Put32 s.env) 5))).bind fun r11 =>
  (pv r11.2 (binA Try.prog .shr 36 (get (prune kp_num_Put32 (prune kp_num_Put32 s.env)) 0) r11.1)).bind fun r12 =>
  (convA Try.prog r12.2 36 5 r12.1).bind fun r13 =>
  (pv r13.2 (indexAddrA Try.prog 80 (get (prune kp_num_Put32 (prune kp_num_Put32 s.env)) 3) (get (prune kp_num_Put32 s.env) 5))).bind fun r14 =>
  (stA Try.prog 5 r14.2 r14.1 r13.1).bind fun r15 =>
  (pv r15.2 (binA Try.prog .add 3 (get (prune kp_num_Put32 (prune kp_num_Put32 (prune kp_num_Put32 s.env))) 5) (.v (Go.Value.int Go.IntKind.i64 1)))).bind fun r16 =>
  some (.normal, ⟨((5, r16.1) :: (4, (get (prune kp_num_Put32 s.env) 5)) :: (6, r10.1) :: (prune kp_num_Put32 (prune kp_num_Put32 (prune kp_num_Put32 (prune kp_num_Put32 s.env))))), r16.2⟩)) (some (.exit 0, ⟨((6, r10.1) :: (prune kp_num_Put32 s.env)), r10.2⟩))
noncomputable def B_num_Put32_0 (_E : FnA) (_n _n0 : Nat) (x5 x3 x2 x0 : AV) (y : Bx) : Option (Ex × S) :=
  (pv y (binA Try.prog .lss 3 x5 (.v (Go.Value.int Go.IntKind.i64 4)))).bind fun r3 =>
  condA r3.1 ((pv r3.2 (binA Try.prog .mul 3 (.v (Go.Value.int Go.IntKind.i64 8)) x5)).bind fun r4 =>
  (pv r4.2 (binA Try.prog .shr 36 x0 r4.1)).bind fun r5 =>
  (convA Try.prog r5.2 36 5 r5.1).bind fun r6 =>
  (pv r6.2 (indexAddrA Try.prog 80 x3 x5)).bind fun r7 =>
  (stA Try.prog 5 r7.2 r7.1 r6.1).bind fun r8 =>
  (pv r8.2 (binA Try.prog .add 3 x5 (.v (Go.Value.int Go.IntKind.i64 1)))).bind fun r9 =>
  some (.normal, ⟨[(5, r9.1), (4, x5), (6, r3.1), (5, x5), (3, x3), (2, x2), (0, x0)], r9.2⟩)) (some (.exit 0, ⟨[(6, r3.1), (5, x5), (3, x3), (2, x2), (0, x0)], r3.2⟩))
theorem L_num_Put32_0_lit {E : FnA} {n n0 : Nat} {x5 x3 x2 x0 : AV} {y : Bx} {Q : Ex → S → Prop} (h : Ends (B_num_Put32_0 E n n0 x5 x3 x2 x0 y) Q) : Ends (L_num_Put32_0 E n n0 ⟨[(5, x5), (3, x3), (2, x2), (0, x0)], y⟩) Q := by
  rw [show L_num_Put32_0 E n n0 ⟨[(5, x5), (3, x3), (2, x2), (0, x0)], y⟩ = B_num_Put32_0 E n n0 x5 x3 x2 x0 y by kernel_rfl]
  exact h
noncomputable def K_num_Put32_0 (_E : FnA) (_n _n0 : Nat) (t : S) : Option (Ex × S) :=
  (pv t.bx (loadA Try.prog 80 t.bx (get t.env 3))).bind fun r19 =>
  (stA Try.prog 80 r19.2 (get t.env 2) r19.1).bind fun r20 =>
  some (.ret, ⟨(prune kp_num_Put32 t.env), r20.2⟩)
noncomputable def X_num_Put32_0 (_E : FnA) (_n _n0 : Nat) (i : Nat) (t : S) : Option (Ex × S) :=
  if i = 0 then (pv t.bx (loadA Try.prog 80 t.bx (get t.env 3))).bind fun r17 =>
  (stA Try.prog 80 r17.2 (get t.env 2) r17.1).bind fun r18 =>
  some (.ret, ⟨(prune kp_num_Put32 t.env), r18.2⟩) else some (.exit i, ⟨t.env, t.bx⟩)
noncomputable def X_num_Put32_0_0 (_E : FnA) (_n _n0 : Nat) (x6 x5 x3 x2 x0 : AV) (y : Bx) : Option (Ex × S) :=
  (pv y (loadA Try.prog 80 y x3)).bind fun r21 =>
  (stA Try.prog 80 r21.2 x2 r21.1).bind fun r22 =>
  some (.ret, ⟨[(6, x6), (5, x5), (3, x3), (2, x2), (0, x0)], r22.2⟩)
theorem X_num_Put32_0_0_lit {E : FnA} {n n0 : Nat} {x6 x5 x3 x2 x0 : AV} {y : Bx} {Q : Ex → S → Prop} (h : Ends (X_num_Put32_0_0 E n n0 x6 x5 x3 x2 x0 y) Q) : Ends (X_num_Put32_0 E n n0 0 ⟨[(6, x6), (5, x5), (3, x3), (2, x2), (0, x0)], y⟩) Q := by
  rw [show X_num_Put32_0 E n n0 0 ⟨[(6, x6), (5, x5), (3, x3), (2, x2), (0, x0)], y⟩ = X_num_Put32_0_0 E n n0 x6 x5 x3 x2 x0 y by kernel_rfl]
  exact h
noncomputable def F_num_Put32 (E : FnA) (n n0 : Nat) (a0 : AV) (bx : Bx) : Option (Ex × S) :=
  (allocA Try.prog bx 80).bind fun r1 =>
  (allocA Try.prog r1.2 80).bind fun r2 =>
  exitA (iter ⟨[(5, (.v (Go.Value.int Go.IntKind.i64 0))), (3, r2.1), (2, r1.1), (0, a0)], r2.2⟩ (L_num_Put32_0 E n n0) n ⟨[(5, (.v (Go.Value.int Go.IntKind.i64 0))), (3, r2.1), (2, r1.1), (0, a0)], r2.2⟩) (K_num_Put32_0 E n n0) (X_num_Put32_0 E n n0)
theorem c_num_Put32_eq : Try.f41.body = some c_num_Put32 := by kernel_rfl
theorem d_num_Put32 : drawsOk Try.prog md0 c_num_Put32 = true := by kernel_rfl
theorem F_num_Put32_eq (E : FnA) (n n0 : Nat) (a0 : AV) (bx : Bx) : evK Try.prog md0 E 17 kp_num_Put32 n n0 c_num_Put32 ⟨[(0, a0)], bx⟩ (fun s => some (.normal, s)) (fun i s => some (.exit i, s)) = F_num_Put32 E n n0 a0 bx := by kernel_rfl

theorem E_num_Put32 (n : Nat) (a0 : AV) (bx : Bx) : evFn cx0 ext0 (n + 1) 41 [a0] bx = fin Try.prog [.cell 2 80] (F_num_Put32 (evFn cx0 ext0 n) n bx.length a0 bx) := by
  rw [evFn_eq2 (cx := cx0) (c := c_num_Put32) rfl Try.func41 c_num_Put32_eq (of_decide_eq_true (by kernel_rfl)) d_num_Put32 (of_decide_eq_true (by kernel_rfl))]
  exact congrArg (fin Try.prog [.cell 2 80]) (F_num_Put32_eq (evFn cx0 ext0 n) n bx.length a0 bx)

/-- scupper/crc.Of -/
def kp_crc_Of : Option (List Nat) := some [0, 2, 3, 5, 7, 8, 9, 10]
noncomputable def c_crc_Of : Code := Try.f42.body.getD .skip
noncomputable def L_crc_Of_0 (E : FnA) (_n _n0 : Nat) (s : S) : Option (Ex × S) :=
  (pv s.bx (binA Try.prog .lss 3 (get s.env 9) (get s.env 8))).bind fun r12 =>
  condA r12.1 ((pv r12.2 (indexAddrA Try.prog 87 (get (prune kp_crc_Of s.env) 7) (get (prune kp_crc_Of s.env) 9))).bind fun r13 =>
  (pv r13.2 (loadA Try.prog 58 r13.2 r13.1)).bind fun r14 =>
  (pv r14.2 (loadA Try.prog 89 r14.2 (get (prune kp_crc_Of (prune kp_crc_Of s.env)) 3))).bind fun r15 =>
  (callA E md0 r15.2 49 [r15.1, r14.1]).bind fun r16 =>
  (stA Try.prog 89 r16.2 (get (prune kp_crc_Of (prune kp_crc_Of s.env)) 3) r16.1).bind fun r17 =>
  (pv r17.2 (binA Try.prog .add 3 (get (prune kp_crc_Of (prune kp_crc_Of (prune kp_crc_Of s.env))) 9) (.v (Go.Value.int Go.IntKind.i64 1)))).bind fun r18 =>
  some (.normal, ⟨((9, r18.1) :: (5, r14.1) :: (10, r12.1) :: (prune kp_crc_Of (prune kp_crc_Of (prune kp_crc_Of (prune kp_crc_Of s.env))))), r18.2⟩)) (some (.exit 0, ⟨((10, r12.1) :: (prune kp_crc_Of s.env)), r12.2⟩))
noncomputable def B_crc_Of_0 (E : FnA) (_n _n0 : Nat) (x9 x8 x7 x3 x2 x0 : AV) (y : Bx) : Option (Ex × S) :=
  (pv y (binA Try.prog .lss 3 x9 x8)).bind fun r5 =>
  condA r5.1 ((pv r5.2 (indexAddrA Try.prog 87 x7 x9)).bind fun r6 =>
  (pv r6.2 (loadA Try.prog 58 r6.2 r6.1)).bind fun r7 =>
  (pv r7.2 (loadA Try.prog 89 r7.2 x3)).bind fun r8 =>
  (callA E md0 r8.2 49 [r8.1, r7.1]).bind fun r9 =>
  (stA Try.prog 89 r9.2 x3 r9.1).bind fun r10 =>
  (pv r10.2 (binA Try.prog .add 3 x9 (.v (Go.Value.int Go.IntKind.i64 1)))).bind fun r11 =>
  some (.normal, ⟨[(9, r11.1), (5, r7.1), (10, r5.1), (9, x9), (8, x8), (7, x7), (3, x3), (2, x2), (0, x0)], r11.2⟩)) (some (.exit 0, ⟨[(10, r5.1), (9, x9), (8, x8), (7, x7), (3, x3), (2, x2), (0, x0)], r5.2⟩))
theorem L_crc_Of_0_lit {E : FnA} {n n0 : Nat} {x9 x8 x7 x3 x2 x0 : AV} {y : Bx} {Q : Ex → S → Prop} (h : Ends (B_crc_Of_0 E n n0 x9 x8 x7 x3 x2 x0 y) Q) : Ends (L_crc_Of_0 E n n0 ⟨[(9, x9), (8, x8), (7, x7), (3, x3), (2, x2), (0, x0)], y⟩) Q := by
  rw [show L_crc_Of_0 E n n0 ⟨[(9, x9), (8, x8), (7, x7), (3, x3), (2, x2), (0, x0)], y⟩ = B_crc_Of_0 E n n0 x9 x8 x7 x3 x2 x0 y by kernel_rfl]
  exact h
noncomputable def K_crc_Of_0 (E : FnA) (_n _n0 : Nat) (t : S) : Option (Ex × S) :=
  (pv t.bx (loadA Try.prog 89 t.bx (get t.env 3))).bind fun r21 =>
  (callA E md0 r21.2 50 [r21.1]).bind fun r22 =>
  some (.ret, ⟨((2, r22.1) :: (prune kp_crc_Of t.env)), r22.2⟩)
noncomputable def X_crc_Of_0 (E : FnA) (_n _n0 : Nat) (i : Nat) (t : S) : Option (Ex × S) :=
  if i = 0 then (pv t.bx (loadA Try.prog 89 t.bx (get t.env 3))).bind fun r19 =>
  (callA E md0 r19.2 50 [r19.1]).bind fun r20 =>
  some (.ret, ⟨((2, r20.1) :: (prune kp_crc_Of t.env)), r20.2⟩) else some (.exit i, ⟨t.env, t.bx⟩)
noncomputable def X_crc_Of_0_0 (E : FnA) (_n _n0 : Nat) (x10 x9 x8 x7 x3 x2 x0 : AV) (y : Bx) : Option (Ex × S) :=
  (pv y (loadA Try.prog 89 y x3)).bind fun r23 =>
  (callA E md0 r23.2 50 [r23.1]).bind fun r24 =>
  some (.ret, ⟨[(2, r24.1), (10, x10), (9, x9), (8, x8), (7, x7), (3, x3), (2, x2), (0, x0)], r24.2⟩)
theorem X_crc_Of_0_0_lit {E : FnA} {n n0 : Nat} {x10 x9 x8 x7 x3 x2 x0 : AV} {y : Bx} {Q : Ex → S → Prop} (h : Ends (X_crc_Of_0_0 E n n0 x10 x9 x8 x7 x3 x2 x0 y) Q) : Ends (X_crc_Of_0 E n n0 0 ⟨[(10, x10), (9, x9), (8, x8), (7, x7), (3, x3), (2, x2), (0, x0)], y⟩) Q := by
  rw [show X_crc_Of_0 E n n0 0 ⟨[(10, x10), (9, x9), (8, x8), (7, x7), (3, x3), (2, x2), (0, x0)], y⟩ = X_crc_Of_0_0 E n n0 x10 x9 x8 x7 x3 x2 x0 y by kernel_rfl]
  exact h
noncomputable def F_crc_Of (E : FnA) (n n0 : Nat) (a0 : AV) (bx : Bx) : Option (Ex × S) :=
  (callA E md0 bx 48 []).bind fun r1 =>
  (allocA Try.prog r1.2 89).bind fun r2 =>
  (stA Try.prog 89 r2.2 r2.1 r1.1).bind fun r3 =>
  (pv r3.2 (lenA Try.prog 87 a0)).bind fun r4 =>
  exitA (iter ⟨[(9, (.v (Go.Value.int Go.IntKind.i64 0))), (8, r4.1), (7, a0), (3, r2.1), (2, (.v (Go.Value.int Go.IntKind.u32 0))), (0, a0)], r4.2⟩ (L_crc_Of_0 E n n0) n ⟨[(9, (.v (Go.Value.int Go.IntKind.i64 0))), (8, r4.1), (7, a0), (3, r2.1), (2, (.v (Go.Value.int Go.IntKind.u32 0))), (0, a0)], r4.2⟩) (K_crc_Of_0 E n n0) (X_crc_Of_0 E n n0)
theorem c_crc_Of_eq : Try.f42.body = some c_crc_Of := by kernel_rfl
theorem d_crc_Of : drawsOk Try.prog md0 c_crc_Of = true := by kernel_rfl
theorem F_crc_Of_eq (E : FnA) (n n0 : Nat) (a0 : AV) (bx : Bx) : evK Try.prog md0 E 19 kp_crc_Of n n0 c_crc_Of ⟨[(0, a0)], bx⟩ (fun s => some (.normal, s)) (fun i s => some (.exit i, s)) = F_crc_Of E n n0 a0 bx := by kernel_rfl

theorem E_crc_Of (n : Nat) (a0 : AV) (bx : Bx) : evFn cx0 ext0 (n + 1) 42 [a0] bx = fin Try.prog [.tmp 2] (F_crc_Of (evFn cx0 ext0 n) n bx.length a0 bx) := by
  rw [evFn_eq2 (cx := cx0) (c := c_crc_Of) rfl Try.func42 c_crc_Of_eq (of_decide_eq_true (by kernel_rfl)) d_crc_Of (of_decide_eq_true (by kernel_rfl))]
  exact congrArg (fin Try.prog [.tmp 2]) (F_crc_Of_eq (evFn cx0 ext0 n) n bx.length a0 bx)

/-- scupper/scupperref02.Add -/
def kp_r02_Add : Option (List Nat) := some [0, 1, 4, 5, 9]
noncomputable def c_r02_Add : Code := Try.f43.body.getD .skip
noncomputable def L_r02_Add_0 (E : FnA) (_n _n0 : Nat) (s : S) : Option (Ex × S) :=
  (pv s.bx (lenA Try.prog 58 (get s.env 1))).bind fun r9 =>
  (pv r9.2 (binA Try.prog .lss 3 (get s.env 5) r9.1)).bind fun r10 =>
  condA r10.1 ((pv r10.2 (indexAddrA Try.prog 58 (get (prune kp_r02_Add s.env) 1) (get (prune kp_r02_Add s.env) 5))).bind fun r11 =>
  (pv r11.2 (loadA Try.prog 5 r11.2 r11.1)).bind fun r12 =>
  (convA Try.prog r12.2 5 36 r12.1).bind fun r13 =>
  (pv r13.2 (binA Try.prog .xor 36 (get (prune kp_r02_Add s.env) 0) r13.1)).bind fun r14 =>
  (callA E md0 r14.2 51 [r14.1, (.v (Go.Value.int Go.IntKind.i64 8))]).bind fun r15 =>
  (pv r15.2 (binA Try.prog .add 3 (get (prune kp_r02_Add (prune kp_r02_Add s.env)) 5) (.v (Go.Value.int Go.IntKind.i64 1)))).bind fun r16 =>
  some (.normal, ⟨((5, r16.1) :: (0, r15.1) :: (9, r10.1) :: (prune kp_r02_Add (prune kp_r02_Add (prune kp_r02_Add s.env)))), r16.2⟩)) (some (.exit 0, ⟨((9, r10.1) :: (prune kp_r02_Add s.env)), r10.2⟩))
noncomputable def B_r02_Add_0 (E : FnA) (_n _n0 : Nat) (x5 x4 x0 x1 : AV) (y : Bx) : Option (Ex × S) :=
  (pv y (lenA Try.prog 58 x1)).bind fun r1 =>
  (pv r1.2 (binA Try.prog .lss 3 x5 r1.1)).bind fun r2 =>
  condA r2.1 ((pv r2.2 (indexAddrA Try.prog 58 x1 x5)).bind fun r3 =>
  (pv r3.2 (loadA Try.prog 5 r3.2 r3.1)).bind fun r4 =>
  (convA Try.prog r4.2 5 36 r4.1).bind fun r5 =>
  (pv r5.2 (binA Try.prog .xor 36 x0 r5.1)).bind fun r6 =>
  (callA E md0 r6.2 51 [r6.1, (.v (Go.Value.int Go.IntKind.i64 8))]).bind fun r7 =>
  (pv r7.2 (binA Try.prog .add 3 x5 (.v (Go.Value.int Go.IntKind.i64 1)))).bind fun r8 =>
  some (.normal, ⟨[(5, r8.1), (0, r7.1), (9, r2.1), (5, x5), (4, x4), (0, x0), (1, x1)], r8.2⟩)) (some (.exit 0, ⟨[(9, r2.1), (5, x5), (4, x4), (0, x0), (1, x1)], r2.2⟩))
theorem L_r02_Add_0_lit {E : FnA} {n n0 : Nat} {x5 x4 x0 x1 : AV} {y : Bx} {Q : Ex → S → Prop} (h : Ends (B_r02_Add_0 E n n0 x5 x4 x0 x1 y) Q) : Ends (L_r02_Add_0 E n n0 ⟨[(5, x5), (4, x4), (0, x0), (1, x1)], y⟩) Q := by
  rw [show L_r02_Add_0 E n n0 ⟨[(5, x5), (4, x4), (0, x0), (1, x1)], y⟩ = B_r02_Add_0 E n n0 x5 x4 x0 x1 y by kernel_rfl]
  exact h
noncomputable def K_r02_Add_0 (_E : FnA) (_n _n0 : Nat) (t : S) : Option (Ex × S) :=
  some (.ret, ⟨((4, (get t.env 0)) :: (prune kp_r02_Add t.env)), t.bx⟩)
noncomputable def X_r02_Add_0 (_E : FnA) (_n _n0 : Nat) (i : Nat) (t : S) : Option (Ex × S) :=
  if i = 0 then some (.ret, ⟨((4, (get t.env 0)) :: (prune kp_r02_Add t.env)), t.bx⟩) else some (.exit i, ⟨t.env, t.bx⟩)
noncomputable def X_r02_Add_0_0 (_E : FnA) (_n _n0 : Nat) (x9 x5 x4 x0 x1 : AV) (y : Bx) : Option (Ex × S) :=
  some (.ret, ⟨[(4, x0), (9, x9), (5, x5), (4, x4), (0, x0), (1, x1)], y⟩)
theorem X_r02_Add_0_0_lit {E : FnA} {n n0 : Nat} {x9 x5 x4 x0 x1 : AV} {y : Bx} {Q : Ex → S → Prop} (h : Ends (X_r02_Add_0_0 E n n0 x9 x5 x4 x0 x1 y) Q) : Ends (X_r02_Add_0 E n n0 0 ⟨[(9, x9), (5, x5), (4, x4), (0, x0), (1, x1)], y⟩) Q := by
  rw [show X_r02_Add_0 E n n0 0 ⟨[(9, x9), (5, x5), (4, x4), (0, x0), (1, x1)], y⟩ = X_r02_Add_0_0 E n n0 x9 x5 x4 x0 x1 y by kernel_rfl]
  exact h
noncomputable def F_r02_Add (E : FnA) (n n0 : Nat) (a0 a1 : AV) (bx : Bx) : Option (Ex × S) :=
  exitA (iter ⟨[(5, (.v (Go.Value.int Go.IntKind.i64 0))), (4, (.v (Go.Value.int Go.IntKind.u32 0))), (0, a0), (1, a1)], bx⟩ (L_r02_Add_0 E n n0) n ⟨[(5, (.v (Go.Value.int Go.IntKind.i64 0))), (4, (.v (Go.Value.int Go.IntKind.u32 0))), (0, a0), (1, a1)], bx⟩) (K_r02_Add_0 E n n0) (X_r02_Add_0 E n n0)
theorem c_r02_Add_eq : Try.f43.body = some c_r02_Add := by kernel_rfl
theorem d_r02_Add : drawsOk Try.prog md0 c_r02_Add = true := by kernel_rfl
theorem F_r02_Add_eq (E : FnA) (n n0 : Nat) (a0 a1 : AV) (bx : Bx) : evK Try.prog md0 E 21 kp_r02_Add n n0 c_r02_Add ⟨[(0, a0), (1, a1)], bx⟩ (fun s => some (.normal, s)) (fun i s => some (.exit i, s)) = F_r02_Add E n n0 a0 a1 bx := by kernel_rfl

theorem E_r02_Add (n : Nat) (a0 a1 : AV) (bx : Bx) : evFn cx0 ext0 (n + 1) 43 [a0, a1] bx = fin Try.prog [.tmp 4] (F_r02_Add (evFn cx0 ext0 n) n bx.length a0 a1 bx) := by
  rw [evFn_eq2 (cx := cx0) (c := c_r02_Add) rfl Try.func43 c_r02_Add_eq (of_decide_eq_true (by kernel_rfl)) d_r02_Add (of_decide_eq_true (by kernel_rfl))]
  exact congrArg (fin Try.prog [.tmp 4]) (F_r02_Add_eq (evFn cx0 ext0 n) n bx.length a0 a1 bx)

/-- scupper/seal.right -/
def kp_seal_right : Option (List Nat) := some [0, 1, 2, 3, 4, 5]
noncomputable def c_seal_right : Code := Try.f44.body.getD .skip
noncomputable def F_seal_right (E : FnA) (_n _n0 : Nat) (a0 : AV) (bx : Bx) : Option (Ex × S) :=
  (boxA bx a0).bind fun r1 =>
  (pv r1.2 (indexAddrA Try.prog 32 r1.1 (.v (Go.Value.int Go.IntKind.i64 54)))).bind fun r2 =>
  (pv r2.2 (loadA Try.prog 5 r2.2 r2.1)).bind fun r3 =>
  (convA Try.prog r3.2 5 3 r3.1).bind fun r4 =>
  (allocA Try.prog r4.2 32).bind fun r5 =>
  (pv r5.2 (loadA Try.prog 32 r5.2 r1.1)).bind fun r6 =>
  (callA E md0 r6.2 45 [r6.1]).bind fun r7 =>
  (pv r7.2 (sliceA Try.prog r7.2 32 r1.1 none (some (.v (Go.Value.int Go.IntKind.i64 54))) none)).bind fun r8 =>
  (pv r8.2 (arrPtrA Try.prog 25 r8.1)).bind fun r9 =>
  (pv r9.2 (loadA Try.prog 25 r9.2 r9.1)).bind fun r10 =>
  (callA E md0 r10.2 27 [r4.1, r7.1, r10.1]).bind fun r11 =>
  (pv r11.2 (tupA r11.1 0)).bind fun r12 =>
  (pv r12.2 (tupA r11.1 1)).bind fun r13 =>
  (stA Try.prog 32 r13.2 r5.1 r12.1).bind fun r14 =>
  (pv r14.2 (binA Try.prog .eql 26 r13.1 (.v (Go.Value.int Go.IntKind.i64 0)))).bind fun r15 =>
  (gsel true r15.2 (pv r15.2 (loadA Try.prog 32 r15.2 r5.1)) r15.1).bind fun r16 =>
  (gsel true r16.2 (pv r16.2 (loadA Try.prog 32 r16.2 r1.1)) r15.1).bind fun r17 =>
  (gsel true r17.2 (pv r17.2 (binA Try.prog .eql 32 r16.1 r17.1)) r15.1).bind fun r18 =>
  (pv r18.2 (pickA r15.1 r18.1 (.v (Go.Value.bool false)))).bind fun r19 =>
  some (.ret, ⟨[(2, r19.1), (5, r13.1), (4, r5.1), (3, r4.1), (2, (.v (Go.Value.bool false))), (1, r1.1), (0, a0)], r19.2⟩)
theorem c_seal_right_eq : Try.f44.body = some c_seal_right := by kernel_rfl
theorem d_seal_right : drawsOk Try.prog md0 c_seal_right = true := by kernel_rfl
theorem F_seal_right_eq (E : FnA) (n n0 : Nat) (a0 : AV) (bx : Bx) : evK Try.prog md0 E 26 kp_seal_right n n0 c_seal_right ⟨[(0, a0)], bx⟩ (fun s => some (.normal, s)) (fun i s => some (.exit i, s)) = F_seal_right E n n0 a0 bx := by kernel_rfl

theorem E_seal_right (n : Nat) (a0 : AV) (bx : Bx) : evFn cx0 ext0 (n + 1) 44 [a0] bx = fin Try.prog [.tmp 2] (F_seal_right (evFn cx0 ext0 n) n bx.length a0 bx) := by
  rw [evFn_eq2 (cx := cx0) (c := c_seal_right) rfl Try.func44 c_seal_right_eq (of_decide_eq_true (by kernel_rfl)) d_seal_right (of_decide_eq_true (by kernel_rfl))]
  exact congrArg (fin Try.prog [.tmp 2]) (F_seal_right_eq (evFn cx0 ext0 n) n bx.length a0 bx)

/-- scupper/seal.turnOf -/
def kp_seal_turnOf : Option (List Nat) := some [0, 1, 2, 3]
noncomputable def c_seal_turnOf : Code := Try.f45.body.getD .skip
noncomputable def F_seal_turnOf (E : FnA) (_n _n0 : Nat) (a0 : AV) (bx : Bx) : Option (Ex × S) :=
  (boxA bx a0).bind fun r1 =>
  (pv r1.2 (sliceA Try.prog r1.2 32 r1.1 none none none)).bind fun r2 =>
  (callA E md0 r2.2 52 [r2.1, (.v (Go.Value.int Go.IntKind.i64 56))]).bind fun r3 =>
  (pv r3.2 (tupA r3.1 0)).bind fun r4 =>
  (pv r4.2 (tupA r3.1 1)).bind fun r5 =>
  some (.ret, ⟨[(2, r4.1), (3, r4.1), (2, (.v (Go.Value.int Go.IntKind.u32 0))), (1, r1.1), (0, a0)], r5.2⟩)
theorem c_seal_turnOf_eq : Try.f45.body = some c_seal_turnOf := by kernel_rfl
theorem d_seal_turnOf : drawsOk Try.prog md0 c_seal_turnOf = true := by kernel_rfl
theorem F_seal_turnOf_eq (E : FnA) (n n0 : Nat) (a0 : AV) (bx : Bx) : evK Try.prog md0 E 11 kp_seal_turnOf n n0 c_seal_turnOf ⟨[(0, a0)], bx⟩ (fun s => some (.normal, s)) (fun i s => some (.exit i, s)) = F_seal_turnOf E n n0 a0 bx := by kernel_rfl

theorem E_seal_turnOf (n : Nat) (a0 : AV) (bx : Bx) : evFn cx0 ext0 (n + 1) 45 [a0] bx = fin Try.prog [.tmp 2] (F_seal_turnOf (evFn cx0 ext0 n) n bx.length a0 bx) := by
  rw [evFn_eq2 (cx := cx0) (c := c_seal_turnOf) rfl Try.func45 c_seal_turnOf_eq (of_decide_eq_true (by kernel_rfl)) d_seal_turnOf (of_decide_eq_true (by kernel_rfl))]
  exact congrArg (fin Try.prog [.tmp 2]) (F_seal_turnOf_eq (evFn cx0 ext0 n) n bx.length a0 bx)

/-- scupper/scupperref06.Total -/
def kp_r06_Total : Option (List Nat) := some [0, 1, 2, 5]
noncomputable def c_r06_Total : Code := Try.f46.body.getD .skip
noncomputable def F_r06_Total (E : FnA) (_n _n0 : Nat) (a0 : AV) (bx : Bx) : Option (Ex × S) :=
  (boxA bx a0).bind fun r1 =>
  (pv r1.2 (loadA Try.prog 23 r1.2 r1.1)).bind fun r2 =>
  (callA E md0 r2.2 23 [r2.1]).bind fun r3 =>
  (pv r3.2 (binA Try.prog .neq 26 r3.1 (.v (Go.Value.int Go.IntKind.i64 0)))).bind fun r4 =>
  condA r4.1 (some (.ret, ⟨[(2, (.v (Go.Value.int Go.IntKind.i64 0))), (5, r4.1), (2, (.v (Go.Value.int Go.IntKind.i64 0))), (1, r1.1), (0, a0)], r4.2⟩)) ((pv r4.2 (fieldAddrA Try.prog 23 r1.1 0)).bind fun r5 =>
  (pv r5.2 (loadA Try.prog 3 r5.2 r5.1)).bind fun r6 =>
  (pv r6.2 (fieldAddrA Try.prog 23 r1.1 1)).bind fun r7 =>
  (pv r7.2 (loadA Try.prog 3 r7.2 r7.1)).bind fun r8 =>
  (pv r8.2 (binA Try.prog .add 3 (.v (Go.Value.int Go.IntKind.i64 2)) r8.1)).bind fun r9 =>
  (pv r9.2 (fieldAddrA Try.prog 23 r1.1 2)).bind fun r10 =>
  (pv r10.2 (loadA Try.prog 3 r10.2 r10.1)).bind fun r11 =>
  (pv r11.2 (binA Try.prog .add 3 r9.1 r11.1)).bind fun r12 =>
  (pv r12.2 (binA Try.prog .mul 3 r6.1 r12.1)).bind fun r13 =>
  (pv r13.2 (binA Try.prog .add 3 (.v (Go.Value.int Go.IntKind.i64 2)) r13.1)).bind fun r14 =>
  some (.ret, ⟨[(2, r14.1), (5, r4.1), (2, (.v (Go.Value.int Go.IntKind.i64 0))), (1, r1.1), (0, a0)], r14.2⟩))
theorem c_r06_Total_eq : Try.f46.body = some c_r06_Total := by kernel_rfl
theorem d_r06_Total : drawsOk Try.prog md0 c_r06_Total = true := by kernel_rfl
theorem F_r06_Total_eq (E : FnA) (n n0 : Nat) (a0 : AV) (bx : Bx) : evK Try.prog md0 E 16 kp_r06_Total n n0 c_r06_Total ⟨[(0, a0)], bx⟩ (fun s => some (.normal, s)) (fun i s => some (.exit i, s)) = F_r06_Total E n n0 a0 bx := by kernel_rfl

theorem E_r06_Total (n : Nat) (a0 : AV) (bx : Bx) : evFn cx0 ext0 (n + 1) 46 [a0] bx = fin Try.prog [.tmp 2] (F_r06_Total (evFn cx0 ext0 n) n bx.length a0 bx) := by
  rw [evFn_eq2 (cx := cx0) (c := c_r06_Total) rfl Try.func46 c_r06_Total_eq (of_decide_eq_true (by kernel_rfl)) d_r06_Total (of_decide_eq_true (by kernel_rfl))]
  exact congrArg (fin Try.prog [.tmp 2]) (F_r06_Total_eq (evFn cx0 ext0 n) n bx.length a0 bx)

/-- scupper/scupperref07.Kind -/
def kp_r07_Kind : Option (List Nat) := some [0, 1, 2, 3, 6, 8, 19]
noncomputable def c_r07_Kind : Code := Try.f47.body.getD .skip
noncomputable def L_r07_Kind_0 (E : FnA) (_n _n0 : Nat) (s : S) : Option (Ex × S) :=
  (pv s.bx (binA Try.prog .lss 3 (get s.env 3) (.v (Go.Value.int Go.IntKind.i64 7)))).bind fun r12 =>
  condA r12.1 ((pv r12.2 (loadA Try.prog 32 r12.2 (get (prune kp_r07_Kind s.env) 1))).bind fun r13 =>
  (callA E md0 r13.2 19 [(get (prune kp_r07_Kind s.env) 3), r13.1]).bind fun r14 =>
  (pv r14.2 (tupA r14.1 0)).bind fun r15 =>
  (pv r15.2 (tupA r14.1 1)).bind fun r16 =>
  (pv r16.2 (tupA r14.1 2)).bind fun r17 =>
  (allocA Try.prog r17.2 25).bind fun r18 =>
  (stA Try.prog 25 r18.2 r18.1 r15.1).bind fun r19 =>
  (pv r19.2 (binA Try.prog .eql 26 r17.1 (.v (Go.Value.int Go.IntKind.i64 0)))).bind fun r20 =>
  condA r20.1 (some (.ret, ⟨((2, (get (prune kp_r07_Kind (prune kp_r07_Kind (prune kp_r07_Kind s.env))) 3)) :: (19, r20.1) :: (6, r17.1) :: (8, r12.1) :: (prune kp_r07_Kind (prune kp_r07_Kind (prune kp_r07_Kind (prune kp_r07_Kind s.env))))), r20.2⟩)) ((pv r20.2 (binA Try.prog .add 3 (get (prune kp_r07_Kind (prune kp_r07_Kind (prune kp_r07_Kind s.env))) 3) (.v (Go.Value.int Go.IntKind.i64 1)))).bind fun r21 =>
  some (.normal, ⟨((3, r21.1) :: (19, r20.1) :: (6, r17.1) :: (8, r12.1) :: (prune kp_r07_Kind (prune kp_r07_Kind (prune kp_r07_Kind (prune kp_r07_Kind s.env))))), r21.2⟩))) (some (.exit 0, ⟨((8, r12.1) :: (prune kp_r07_Kind s.env)), r12.2⟩))
noncomputable def B_r07_Kind_0 (E : FnA) (_n _n0 : Nat) (x3 x2 x1 x0 : AV) (y : Bx) : Option (Ex × S) :=
  (pv y (binA Try.prog .lss 3 x3 (.v (Go.Value.int Go.IntKind.i64 7)))).bind fun r2 =>
  condA r2.1 ((pv r2.2 (loadA Try.prog 32 r2.2 x1)).bind fun r3 =>
  (callA E md0 r3.2 19 [x3, r3.1]).bind fun r4 =>
  (pv r4.2 (tupA r4.1 0)).bind fun r5 =>
  (pv r5.2 (tupA r4.1 1)).bind fun r6 =>
  (pv r6.2 (tupA r4.1 2)).bind fun r7 =>
  (allocA Try.prog r7.2 25).bind fun r8 =>
  (stA Try.prog 25 r8.2 r8.1 r5.1).bind fun r9 =>
  (pv r9.2 (binA Try.prog .eql 26 r7.1 (.v (Go.Value.int Go.IntKind.i64 0)))).bind fun r10 =>
  condA r10.1 (some (.ret, ⟨[(2, x3), (19, r10.1), (6, r7.1), (8, r2.1), (3, x3), (2, x2), (1, x1), (0, x0)], r10.2⟩)) ((pv r10.2 (binA Try.prog .add 3 x3 (.v (Go.Value.int Go.IntKind.i64 1)))).bind fun r11 =>
  some (.normal, ⟨[(3, r11.1), (19, r10.1), (6, r7.1), (8, r2.1), (3, x3), (2, x2), (1, x1), (0, x0)], r11.2⟩))) (some (.exit 0, ⟨[(8, r2.1), (3, x3), (2, x2), (1, x1), (0, x0)], r2.2⟩))
theorem L_r07_Kind_0_lit {E : FnA} {n n0 : Nat} {x3 x2 x1 x0 : AV} {y : Bx} {Q : Ex → S → Prop} (h : Ends (B_r07_Kind_0 E n n0 x3 x2 x1 x0 y) Q) : Ends (L_r07_Kind_0 E n n0 ⟨[(3, x3), (2, x2), (1, x1), (0, x0)], y⟩) Q := by
  rw [show L_r07_Kind_0 E n n0 ⟨[(3, x3), (2, x2), (1, x1), (0, x0)], y⟩ = B_r07_Kind_0 E n n0 x3 x2 x1 x0 y by kernel_rfl]
  exact h
noncomputable def K_r07_Kind_0 (_E : FnA) (_n _n0 : Nat) (t : S) : Option (Ex × S) :=
  some (.ret, ⟨((2, (.v (Go.Value.int Go.IntKind.i64 0))) :: (prune kp_r07_Kind t.env)), t.bx⟩)
noncomputable def X_r07_Kind_0 (_E : FnA) (_n _n0 : Nat) (i : Nat) (t : S) : Option (Ex × S) :=
  if i = 0 then some (.ret, ⟨((2, (.v (Go.Value.int Go.IntKind.i64 0))) :: (prune kp_r07_Kind t.env)), t.bx⟩) else some (.exit i, ⟨t.env, t.bx⟩)
noncomputable def X_r07_Kind_0_0 (_E : FnA) (_n _n0 : Nat) (x8 x3 x2 x1 x0 : AV) (y : Bx) : Option (Ex × S) :=
  some (.ret, ⟨[(2, (.v (Go.Value.int Go.IntKind.i64 0))), (8, x8), (3, x3), (2, x2), (1, x1), (0, x0)], y⟩)
theorem X_r07_Kind_0_0_lit {E : FnA} {n n0 : Nat} {x8 x3 x2 x1 x0 : AV} {y : Bx} {Q : Ex → S → Prop} (h : Ends (X_r07_Kind_0_0 E n n0 x8 x3 x2 x1 x0 y) Q) : Ends (X_r07_Kind_0 E n n0 0 ⟨[(8, x8), (3, x3), (2, x2), (1, x1), (0, x0)], y⟩) Q := by
  rw [show X_r07_Kind_0 E n n0 0 ⟨[(8, x8), (3, x3), (2, x2), (1, x1), (0, x0)], y⟩ = X_r07_Kind_0_0 E n n0 x8 x3 x2 x1 x0 y by kernel_rfl]
  exact h
noncomputable def F_r07_Kind (E : FnA) (n n0 : Nat) (a0 : AV) (bx : Bx) : Option (Ex × S) :=
  (boxA bx a0).bind fun r1 =>
  exitA (iter ⟨[(3, (.v (Go.Value.int Go.IntKind.i64 1))), (2, (.v (Go.Value.int Go.IntKind.i64 0))), (1, r1.1), (0, a0)], r1.2⟩ (L_r07_Kind_0 E n n0) n ⟨[(3, (.v (Go.Value.int Go.IntKind.i64 1))), (2, (.v (Go.Value.int Go.IntKind.i64 0))), (1, r1.1), (0, a0)], r1.2⟩) (K_r07_Kind_0 E n n0) (X_r07_Kind_0 E n n0)
theorem c_r07_Kind_eq : Try.f47.body = some c_r07_Kind := by kernel_rfl
theorem d_r07_Kind : drawsOk Try.prog md0 c_r07_Kind = true := by kernel_rfl
theorem F_r07_Kind_eq (E : FnA) (n n0 : Nat) (a0 : AV) (bx : Bx) : evK Try.prog md0 E 21 kp_r07_Kind n n0 c_r07_Kind ⟨[(0, a0)], bx⟩ (fun s => some (.normal, s)) (fun i s => some (.exit i, s)) = F_r07_Kind E n n0 a0 bx := by kernel_rfl

theorem E_r07_Kind (n : Nat) (a0 : AV) (bx : Bx) : evFn cx0 ext0 (n + 1) 47 [a0] bx = fin Try.prog [.tmp 2] (F_r07_Kind (evFn cx0 ext0 n) n bx.length a0 bx) := by
  rw [evFn_eq2 (cx := cx0) (c := c_r07_Kind) rfl Try.func47 c_r07_Kind_eq (of_decide_eq_true (by kernel_rfl)) d_r07_Kind (of_decide_eq_true (by kernel_rfl))]
  exact congrArg (fin Try.prog [.tmp 2]) (F_r07_Kind_eq (evFn cx0 ext0 n) n bx.length a0 bx)

/-- scupper/crc.Begin -/
def kp_crc_Begin : Option (List Nat) := some [0]
noncomputable def c_crc_Begin : Code := Try.f48.body.getD .skip
noncomputable def F_crc_Begin (_E : FnA) (_n _n0 : Nat) (bx : Bx) : Option (Ex × S) :=
  (allocA Try.prog bx 89).bind fun r1 =>
  (pv r1.2 (buildA Try.prog 89 [(0, (.v (Go.Value.int Go.IntKind.u32 4294967295)))])).bind fun r2 =>
  (stA Try.prog 89 r2.2 r1.1 r2.1).bind fun r3 =>
  some (.ret, ⟨[(0, r1.1)], r3.2⟩)
theorem c_crc_Begin_eq : Try.f48.body = some c_crc_Begin := by kernel_rfl
theorem d_crc_Begin : drawsOk Try.prog md0 c_crc_Begin = true := by kernel_rfl
theorem F_crc_Begin_eq (E : FnA) (n n0 : Nat) (bx : Bx) : evK Try.prog md0 E 2 kp_crc_Begin n n0 c_crc_Begin ⟨[], bx⟩ (fun s => some (.normal, s)) (fun i s => some (.exit i, s)) = F_crc_Begin E n n0  bx := by kernel_rfl

theorem E_crc_Begin (n : Nat) (bx : Bx) : evFn cx0 ext0 (n + 1) 48 [] bx = fin Try.prog [.cell 0 89] (F_crc_Begin (evFn cx0 ext0 n) n bx.length  bx) := by
  rw [evFn_eq2 (cx := cx0) (c := c_crc_Begin) rfl Try.func48 c_crc_Begin_eq (of_decide_eq_true (by kernel_rfl)) d_crc_Begin (of_decide_eq_true (by kernel_rfl))]
  exact congrArg (fin Try.prog [.cell 0 89]) (F_crc_Begin_eq (evFn cx0 ext0 n) n bx.length  bx)

/-- (scupper/crc.Sum).Add -/
def kp_crc_Sum_Add : Option (List Nat) := some [0, 1, 2, 4, 6, 7, 8, 9, 10]
noncomputable def c_crc_Sum_Add : Code := Try.f49.body.getD .skip
noncomputable def L_crc_Sum_Add_0 (E : FnA) (_n _n0 : Nat) (s : S) : Option (Ex × S) :=
  (pv s.bx (binA Try.prog .lss 3 (get s.env 9) (get s.env 8))).bind fun r15 =>
  condA r15.1 ((pv r15.2 (indexAddrA Try.prog 58 (get (prune kp_crc_Sum_Add s.env) 7) (get (prune kp_crc_Sum_Add s.env) 9))).bind fun r16 =>
  (pv r16.2 (loadA Try.prog 5 r16.2 r16.1)).bind fun r17 =>
  (pv r17.2 (fieldAddrA Try.prog 89 (get (prune kp_crc_Sum_Add (prune kp_crc_Sum_Add s.env)) 2) 0)).bind fun r18 =>
  (pv r18.2 (loadA Try.prog 36 r18.2 r18.1)).bind fun r19 =>
  (convA Try.prog r19.2 5 36 r17.1).bind fun r20 =>
  (pv r20.2 (binA Try.prog .xor 36 r19.1 r20.1)).bind fun r21 =>
  (callA E md0 r21.2 53 [r21.1, (.v (Go.Value.int Go.IntKind.i64 8))]).bind fun r22 =>
  (pv r22.2 (fieldAddrA Try.prog 89 (get (prune kp_crc_Sum_Add (prune kp_crc_Sum_Add s.env)) 2) 0)).bind fun r23 =>
  (stA Try.prog 36 r23.2 r23.1 r22.1).bind fun r24 =>
  (pv r24.2 (binA Try.prog .add 3 (get (prune kp_crc_Sum_Add (prune kp_crc_Sum_Add (prune kp_crc_Sum_Add s.env))) 9) (.v (Go.Value.int Go.IntKind.i64 1)))).bind fun r25 =>
  some (.normal, ⟨((9, r25.1) :: (6, r17.1) :: (10, r15.1) :: (prune kp_crc_Sum_Add (prune kp_crc_Sum_Add (prune kp_crc_Sum_Add (prune kp_crc_Sum_Add s.env))))), r25.2⟩)) (some (.exit 0, ⟨((10, r15.1) :: (prune kp_crc_Sum_Add s.env)), r15.2⟩))
noncomputable def B_crc_Sum_Add_0 (E : FnA) (_n _n0 : Nat) (x9 x8 x7 x4 x2 x0 x1 : AV) (y : Bx) : Option (Ex × S) :=
  (pv y (binA Try.prog .lss 3 x9 x8)).bind fun r4 =>
  condA r4.1 ((pv r4.2 (indexAddrA Try.prog 58 x7 x9)).bind fun r5 =>
  (pv r5.2 (loadA Try.prog 5 r5.2 r5.1)).bind fun r6 =>
  (pv r6.2 (fieldAddrA Try.prog 89 x2 0)).bind fun r7 =>
  (pv r7.2 (loadA Try.prog 36 r7.2 r7.1)).bind fun r8 =>
  (convA Try.prog r8.2 5 36 r6.1).bind fun r9 =>
  (pv r9.2 (binA Try.prog .xor 36 r8.1 r9.1)).bind fun r10 =>
  (callA E md0 r10.2 53 [r10.1, (.v (Go.Value.int Go.IntKind.i64 8))]).bind fun r11 =>
  (pv r11.2 (fieldAddrA Try.prog 89 x2 0)).bind fun r12 =>
  (stA Try.prog 36 r12.2 r12.1 r11.1).bind fun r13 =>
  (pv r13.2 (binA Try.prog .add 3 x9 (.v (Go.Value.int Go.IntKind.i64 1)))).bind fun r14 =>
  some (.normal, ⟨[(9, r14.1), (6, r6.1), (10, r4.1), (9, x9), (8, x8), (7, x7), (4, x4), (2, x2), (0, x0), (1, x1)], r14.2⟩)) (some (.exit 0, ⟨[(10, r4.1), (9, x9), (8, x8), (7, x7), (4, x4), (2, x2), (0, x0), (1, x1)], r4.2⟩))
theorem L_crc_Sum_Add_0_lit {E : FnA} {n n0 : Nat} {x9 x8 x7 x4 x2 x0 x1 : AV} {y : Bx} {Q : Ex → S → Prop} (h : Ends (B_crc_Sum_Add_0 E n n0 x9 x8 x7 x4 x2 x0 x1 y) Q) : Ends (L_crc_Sum_Add_0 E n n0 ⟨[(9, x9), (8, x8), (7, x7), (4, x4), (2, x2), (0, x0), (1, x1)], y⟩) Q := by
  rw [show L_crc_Sum_Add_0 E n n0 ⟨[(9, x9), (8, x8), (7, x7), (4, x4), (2, x2), (0, x0), (1, x1)], y⟩ = B_crc_Sum_Add_0 E n n0 x9 x8 x7 x4 x2 x0 x1 y by kernel_rfl]
  exact h
noncomputable def K_crc_Sum_Add_0 (_E : FnA) (_n _n0 : Nat) (t : S) : Option (Ex × S) :=
  (pv t.bx (fieldAddrA Try.prog 89 (get t.env 2) 1)).bind fun r34 =>
  (pv r34.2 (loadA Try.prog 3 r34.2 r34.1)).bind fun r35 =>
  (pv r35.2 (lenA Try.prog 58 (get t.env 1))).bind fun r36 =>
  (pv r36.2 (binA Try.prog .add 3 r35.1 r36.1)).bind fun r37 =>
  (pv r37.2 (fieldAddrA Try.prog 89 (get t.env 2) 1)).bind fun r38 =>
  (stA Try.prog 3 r38.2 r38.1 r37.1).bind fun r39 =>
  (pv r39.2 (loadA Try.prog 89 r39.2 (get (prune kp_crc_Sum_Add t.env) 2))).bind fun r40 =>
  (stA Try.prog 89 r40.2 (get (prune kp_crc_Sum_Add t.env) 4) r40.1).bind fun r41 =>
  some (.ret, ⟨(prune kp_crc_Sum_Add (prune kp_crc_Sum_Add t.env)), r41.2⟩)
noncomputable def X_crc_Sum_Add_0 (_E : FnA) (_n _n0 : Nat) (i : Nat) (t : S) : Option (Ex × S) :=
  if i = 0 then (pv t.bx (fieldAddrA Try.prog 89 (get t.env 2) 1)).bind fun r26 =>
  (pv r26.2 (loadA Try.prog 3 r26.2 r26.1)).bind fun r27 =>
  (pv r27.2 (lenA Try.prog 58 (get t.env 1))).bind fun r28 =>
  (pv r28.2 (binA Try.prog .add 3 r27.1 r28.1)).bind fun r29 =>
  (pv r29.2 (fieldAddrA Try.prog 89 (get t.env 2) 1)).bind fun r30 =>
  (stA Try.prog 3 r30.2 r30.1 r29.1).bind fun r31 =>
  (pv r31.2 (loadA Try.prog 89 r31.2 (get (prune kp_crc_Sum_Add t.env) 2))).bind fun r32 =>
  (stA Try.prog 89 r32.2 (get (prune kp_crc_Sum_Add t.env) 4) r32.1).bind fun r33 =>
  some (.ret, ⟨(prune kp_crc_Sum_Add (prune kp_crc_Sum_Add t.env)), r33.2⟩) else some (.exit i, ⟨t.env, t.bx⟩)
noncomputable def X_crc_Sum_Add_0_0 (_E : FnA) (_n _n0 : Nat) (x10 x9 x8 x7 x4 x2 x0 x1 : AV) (y : Bx) : Option (Ex × S) :=
  (pv y (fieldAddrA Try.prog 89 x2 1)).bind fun r42 =>
  (pv r42.2 (loadA Try.prog 3 r42.2 r42.1)).bind fun r43 =>
  (pv r43.2 (lenA Try.prog 58 x1)).bind fun r44 =>
  (pv r44.2 (binA Try.prog .add 3 r43.1 r44.1)).bind fun r45 =>
  (pv r45.2 (fieldAddrA Try.prog 89 x2 1)).bind fun r46 =>
  (stA Try.prog 3 r46.2 r46.1 r45.1).bind fun r47 =>
  (pv r47.2 (loadA Try.prog 89 r47.2 x2)).bind fun r48 =>
  (stA Try.prog 89 r48.2 x4 r48.1).bind fun r49 =>
  some (.ret, ⟨[(10, x10), (9, x9), (8, x8), (7, x7), (4, x4), (2, x2), (0, x0), (1, x1)], r49.2⟩)
theorem X_crc_Sum_Add_0_0_lit {E : FnA} {n n0 : Nat} {x10 x9 x8 x7 x4 x2 x0 x1 : AV} {y : Bx} {Q : Ex → S → Prop} (h : Ends (X_crc_Sum_Add_0_0 E n n0 x10 x9 x8 x7 x4 x2 x0 x1 y) Q) : Ends (X_crc_Sum_Add_0 E n n0 0 ⟨[(10, x10), (9, x9), (8, x8), (7, x7), (4, x4), (2, x2), (0, x0), (1, x1)], y⟩) Q := by
  rw [show X_crc_Sum_Add_0 E n n0 0 ⟨[(10, x10), (9, x9), (8, x8), (7, x7), (4, x4), (2, x2), (0, x0), (1, x1)], y⟩ = X_crc_Sum_Add_0_0 E n n0 x10 x9 x8 x7 x4 x2 x0 x1 y by kernel_rfl]
  exact h
noncomputable def F_crc_Sum_Add (E : FnA) (n n0 : Nat) (a0 a1 : AV) (bx : Bx) : Option (Ex × S) :=
  (boxA bx a0).bind fun r1 =>
  (allocA Try.prog r1.2 89).bind fun r2 =>
  (pv r2.2 (lenA Try.prog 58 a1)).bind fun r3 =>
  exitA (iter ⟨[(9, (.v (Go.Value.int Go.IntKind.i64 0))), (8, r3.1), (7, a1), (4, r2.1), (2, r1.1), (0, a0), (1, a1)], r3.2⟩ (L_crc_Sum_Add_0 E n n0) n ⟨[(9, (.v (Go.Value.int Go.IntKind.i64 0))), (8, r3.1), (7, a1), (4, r2.1), (2, r1.1), (0, a0), (1, a1)], r3.2⟩) (K_crc_Sum_Add_0 E n n0) (X_crc_Sum_Add_0 E n n0)
theorem c_crc_Sum_Add_eq : Try.f49.body = some c_crc_Sum_Add := by kernel_rfl
theorem d_crc_Sum_Add : drawsOk Try.prog md0 c_crc_Sum_Add = true := by kernel_rfl
theorem F_crc_Sum_Add_eq (E : FnA) (n n0 : Nat) (a0 a1 : AV) (bx : Bx) : evK Try.prog md0 E 28 kp_crc_Sum_Add n n0 c_crc_Sum_Add ⟨[(0, a0), (1, a1)], bx⟩ (fun s => some (.normal, s)) (fun i s => some (.exit i, s)) = F_crc_Sum_Add E n n0 a0 a1 bx := by kernel_rfl

theorem E_crc_Sum_Add (n : Nat) (a0 a1 : AV) (bx : Bx) : evFn cx0 ext0 (n + 1) 49 [a0, a1] bx = fin Try.prog [.cell 4 89] (F_crc_Sum_Add (evFn cx0 ext0 n) n bx.length a0 a1 bx) := by
  rw [evFn_eq2 (cx := cx0) (c := c_crc_Sum_Add) rfl Try.func49 c_crc_Sum_Add_eq (of_decide_eq_true (by kernel_rfl)) d_crc_Sum_Add (of_decide_eq_true (by kernel_rfl))]
  exact congrArg (fin Try.prog [.cell 4 89]) (F_crc_Sum_Add_eq (evFn cx0 ext0 n) n bx.length a0 a1 bx)

/-- (scupper/crc.Sum).Value -/
def kp_crc_Sum_Value : Option (List Nat) := some [0, 1, 2]
noncomputable def c_crc_Sum_Value : Code := Try.f50.body.getD .skip
noncomputable def F_crc_Sum_Value (_E : FnA) (_n _n0 : Nat) (a0 : AV) (bx : Bx) : Option (Ex × S) :=
  (boxA bx a0).bind fun r1 =>
  (pv r1.2 (fieldAddrA Try.prog 89 r1.1 0)).bind fun r2 =>
  (pv r2.2 (loadA Try.prog 36 r2.2 r2.1)).bind fun r3 =>
  (pv r3.2 (unA .xor r3.1)).bind fun r4 =>
  some (.ret, ⟨[(2, r4.1), (2, (.v (Go.Value.int Go.IntKind.u32 0))), (1, r1.1), (0, a0)], r4.2⟩)
theorem c_crc_Sum_Value_eq : Try.f50.body = some c_crc_Sum_Value := by kernel_rfl
theorem d_crc_Sum_Value : drawsOk Try.prog md0 c_crc_Sum_Value = true := by kernel_rfl
theorem F_crc_Sum_Value_eq (E : FnA) (n n0 : Nat) (a0 : AV) (bx : Bx) : evK Try.prog md0 E 6 kp_crc_Sum_Value n n0 c_crc_Sum_Value ⟨[(0, a0)], bx⟩ (fun s => some (.normal, s)) (fun i s => some (.exit i, s)) = F_crc_Sum_Value E n n0 a0 bx := by kernel_rfl

theorem E_crc_Sum_Value (n : Nat) (a0 : AV) (bx : Bx) : evFn cx0 ext0 (n + 1) 50 [a0] bx = fin Try.prog [.tmp 2] (F_crc_Sum_Value (evFn cx0 ext0 n) n bx.length a0 bx) := by
  rw [evFn_eq2 (cx := cx0) (c := c_crc_Sum_Value) rfl Try.func50 c_crc_Sum_Value_eq (of_decide_eq_true (by kernel_rfl)) d_crc_Sum_Value (of_decide_eq_true (by kernel_rfl))]
  exact congrArg (fin Try.prog [.tmp 2]) (F_crc_Sum_Value_eq (evFn cx0 ext0 n) n bx.length a0 bx)

/-- scupper/scupperref02.step -/
def kp_r02_step : Option (List Nat) := some [0, 1, 4, 5, 6, 9, 17]
noncomputable def c_r02_step : Code := Try.f51.body.getD .skip
noncomputable def L_r02_step_0 (_E : FnA) (_n _n0 : Nat) (s : S) : Option (Ex × S) :=
  (pv s.bx (binA Try.prog .lss 3 (get s.env 5) (get s.env 1))).bind fun r8 =>
  condA r8.1 ((pv r8.2 (binA Try.prog .rem 36 (get (prune kp_r02_step s.env) 0) (.v (Go.Value.int Go.IntKind.u32 2)))).bind fun r9 =>
  (pv r9.2 (binA Try.prog .quo 36 (get (prune kp_r02_step (prune kp_r02_step s.env)) 0) (.v (Go.Value.int Go.IntKind.u32 2)))).bind fun r10 =>
  (pv r10.2 (binA Try.prog .eql 36 r9.1 (.v (Go.Value.int Go.IntKind.u32 1)))).bind fun r11 =>
  condA r11.1 ((pv r11.2 (binA Try.prog .xor 36 r10.1 (.v (Go.Value.int Go.IntKind.u32 2197175160)))).bind fun r12 =>
  (pv r12.2 (binA Try.prog .add 3 (get (prune kp_r02_step (prune kp_r02_step (prune kp_r02_step (prune kp_r02_step (prune kp_r02_step s.env))))) 5) (.v (Go.Value.int Go.IntKind.i64 1)))).bind fun r13 =>
  some (.normal, ⟨((5, r13.1) :: (0, r12.1) :: (17, r11.1) :: (0, r10.1) :: (6, r9.1) :: (9, r8.1) :: (prune kp_r02_step (prune kp_r02_step (prune kp_r02_step (prune kp_r02_step (prune kp_r02_step (prune kp_r02_step s.env))))))), r13.2⟩)) ((pv r11.2 (binA Try.prog .add 3 (get (prune kp_r02_step (prune kp_r02_step (prune kp_r02_step (prune kp_r02_step s.env)))) 5) (.v (Go.Value.int Go.IntKind.i64 1)))).bind fun r14 =>
  some (.normal, ⟨((5, r14.1) :: (17, r11.1) :: (0, r10.1) :: (6, r9.1) :: (9, r8.1) :: (prune kp_r02_step (prune kp_r02_step (prune kp_r02_step (prune kp_r02_step (prune kp_r02_step s.env)))))), r14.2⟩))) (some (.exit 0, ⟨((9, r8.1) :: (prune kp_r02_step s.env)), r8.2⟩))
noncomputable def B_r02_step_0 (_E : FnA) (_n _n0 : Nat) (x5 x4 x0 x1 : AV) (y : Bx) : Option (Ex × S) :=
  (pv y (binA Try.prog .lss 3 x5 x1)).bind fun r1 =>
  condA r1.1 ((pv r1.2 (binA Try.prog .rem 36 x0 (.v (Go.Value.int Go.IntKind.u32 2)))).bind fun r2 =>
  (pv r2.2 (binA Try.prog .quo 36 x0 (.v (Go.Value.int Go.IntKind.u32 2)))).bind fun r3 =>
  (pv r3.2 (binA Try.prog .eql 36 r2.1 (.v (Go.Value.int Go.IntKind.u32 1)))).bind fun r4 =>
  condA r4.1 ((pv r4.2 (binA Try.prog .xor 36 r3.1 (.v (Go.Value.int Go.IntKind.u32 2197175160)))).bind fun r5 =>
  (pv r5.2 (binA Try.prog .add 3 x5 (.v (Go.Value.int Go.IntKind.i64 1)))).bind fun r6 =>
  some (.normal, ⟨[(5, r6.1), (0, r5.1), (17, r4.1), (0, r3.1), (6, r2.1), (9, r1.1), (5, x5), (4, x4), (0, x0), (1, x1)], r6.2⟩)) ((pv r4.2 (binA Try.prog .add 3 x5 (.v (Go.Value.int Go.IntKind.i64 1)))).bind fun r7 =>
  some (.normal, ⟨[(5, r7.1), (17, r4.1), (0, r3.1), (6, r2.1), (9, r1.1), (5, x5), (4, x4), (0, x0), (1, x1)], r7.2⟩))) (some (.exit 0, ⟨[(9, r1.1), (5, x5), (4, x4), (0, x0), (1, x1)], r1.2⟩))
theorem L_r02_step_0_lit {E : FnA} {n n0 : Nat} {x5 x4 x0 x1 : AV} {y : Bx} {Q : Ex → S → Prop} (h : Ends (B_r02_step_0 E n n0 x5 x4 x0 x1 y) Q) : Ends (L_r02_step_0 E n n0 ⟨[(5, x5), (4, x4), (0, x0), (1, x1)], y⟩) Q := by
  rw [show L_r02_step_0 E n n0 ⟨[(5, x5), (4, x4), (0, x0), (1, x1)], y⟩ = B_r02_step_0 E n n0 x5 x4 x0 x1 y by kernel_rfl]
  exact h
noncomputable def K_r02_step_0 (_E : FnA) (_n _n0 : Nat) (t : S) : Option (Ex × S) :=
  some (.ret, ⟨((4, (get t.env 0)) :: (prune kp_r02_step t.env)), t.bx⟩)
noncomputable def X_r02_step_0 (_E : FnA) (_n _n0 : Nat) (i : Nat) (t : S) : Option (Ex × S) :=
  if i = 0 then some (.ret, ⟨((4, (get t.env 0)) :: (prune kp_r02_step t.env)), t.bx⟩) else some (.exit i, ⟨t.env, t.bx⟩)
noncomputable def X_r02_step_0_0 (_E : FnA) (_n _n0 : Nat) (x9 x5 x4 x0 x1 : AV) (y : Bx) : Option (Ex × S) :=
  some (.ret, ⟨[(4, x0), (9, x9), (5, x5), (4, x4), (0, x0), (1, x1)], y⟩)
theorem X_r02_step_0_0_lit {E : FnA} {n n0 : Nat} {x9 x5 x4 x0 x1 : AV} {y : Bx} {Q : Ex → S → Prop} (h : Ends (X_r02_step_0_0 E n n0 x9 x5 x4 x0 x1 y) Q) : Ends (X_r02_step_0 E n n0 0 ⟨[(9, x9), (5, x5), (4, x4), (0, x0), (1, x1)], y⟩) Q := by
  rw [show X_r02_step_0 E n n0 0 ⟨[(9, x9), (5, x5), (4, x4), (0, x0), (1, x1)], y⟩ = X_r02_step_0_0 E n n0 x9 x5 x4 x0 x1 y by kernel_rfl]
  exact h
noncomputable def F_r02_step (E : FnA) (n n0 : Nat) (a0 a1 : AV) (bx : Bx) : Option (Ex × S) :=
  exitA (iter ⟨[(5, (.v (Go.Value.int Go.IntKind.i64 0))), (4, (.v (Go.Value.int Go.IntKind.u32 0))), (0, a0), (1, a1)], bx⟩ (L_r02_step_0 E n n0) n ⟨[(5, (.v (Go.Value.int Go.IntKind.i64 0))), (4, (.v (Go.Value.int Go.IntKind.u32 0))), (0, a0), (1, a1)], bx⟩) (K_r02_step_0 E n n0) (X_r02_step_0 E n n0)
theorem c_r02_step_eq : Try.f51.body = some c_r02_step := by kernel_rfl
theorem d_r02_step : drawsOk Try.prog md0 c_r02_step = true := by kernel_rfl
theorem F_r02_step_eq (E : FnA) (n n0 : Nat) (a0 a1 : AV) (bx : Bx) : evK Try.prog md0 E 21 kp_r02_step n n0 c_r02_step ⟨[(0, a0), (1, a1)], bx⟩ (fun s => some (.normal, s)) (fun i s => some (.exit i, s)) = F_r02_step E n n0 a0 a1 bx := by kernel_rfl

theorem E_r02_step (n : Nat) (a0 a1 : AV) (bx : Bx) : evFn cx0 ext0 (n + 1) 51 [a0, a1] bx = fin Try.prog [.tmp 4] (F_r02_step (evFn cx0 ext0 n) n bx.length a0 a1 bx) := by
  rw [evFn_eq2 (cx := cx0) (c := c_r02_step) rfl Try.func51 c_r02_step_eq (of_decide_eq_true (by kernel_rfl)) d_r02_step (of_decide_eq_true (by kernel_rfl))]
  exact congrArg (fin Try.prog [.tmp 4]) (F_r02_step_eq (evFn cx0 ext0 n) n bx.length a0 a1 bx)

/-- scupper/num.Get32 -/
def kp_num_Get32 : Option (List Nat) := some [0, 1, 4, 5]
noncomputable def c_num_Get32 : Code := Try.f52.body.getD .skip
noncomputable def F_num_Get32 (E : FnA) (_n _n0 : Nat) (a0 a1 : AV) (bx : Bx) : Option (Ex × S) :=
  (callA E md0 bx 38 [a0, a1, (.v (Go.Value.int Go.IntKind.i64 4))]).bind fun r1 =>
  (pv r1.2 (tupA r1.1 0)).bind fun r2 =>
  (pv r2.2 (tupA r1.1 1)).bind fun r3 =>
  some (.ret, ⟨[(5, r3.1), (4, r2.1), (5, (.v (Go.Value.int Go.IntKind.i64 0))), (4, (.v (Go.Value.int Go.IntKind.u32 0))), (0, a0), (1, a1)], r3.2⟩)
theorem c_num_Get32_eq : Try.f52.body = some c_num_Get32 := by kernel_rfl
theorem d_num_Get32 : drawsOk Try.prog md0 c_num_Get32 = true := by kernel_rfl
theorem F_num_Get32_eq (E : FnA) (n n0 : Nat) (a0 a1 : AV) (bx : Bx) : evK Try.prog md0 E 11 kp_num_Get32 n n0 c_num_Get32 ⟨[(0, a0), (1, a1)], bx⟩ (fun s => some (.normal, s)) (fun i s => some (.exit i, s)) = F_num_Get32 E n n0 a0 a1 bx := by kernel_rfl

theorem E_num_Get32 (n : Nat) (a0 a1 : AV) (bx : Bx) : evFn cx0 ext0 (n + 1) 52 [a0, a1] bx = fin Try.prog [.tmp 4, .tmp 5] (F_num_Get32 (evFn cx0 ext0 n) n bx.length a0 a1 bx) := by
  rw [evFn_eq2 (cx := cx0) (c := c_num_Get32) rfl Try.func52 c_num_Get32_eq (of_decide_eq_true (by kernel_rfl)) d_num_Get32 (of_decide_eq_true (by kernel_rfl))]
  exact congrArg (fin Try.prog [.tmp 4, .tmp 5]) (F_num_Get32_eq (evFn cx0 ext0 n) n bx.length a0 a1 bx)

/-- scupper/crc.stepped -/
def kp_crc_stepped : Option (List Nat) := some [0, 1, 4, 5, 6, 7, 8]
noncomputable def c_crc_stepped : Code := Try.f53.body.getD .skip
noncomputable def L_crc_stepped_0 (_E : FnA) (_n _n0 : Nat) (s : S) : Option (Ex × S) :=
  (pv s.bx (binA Try.prog .lss 3 (get s.env 7) (get s.env 6))).bind fun r8 =>
  condA r8.1 ((pv r8.2 (binA Try.prog .and 36 (get (prune kp_crc_stepped s.env) 0) (.v (Go.Value.int Go.IntKind.u32 1)))).bind fun r9 =>
  (pv r9.2 (unA .neg r9.1)).bind fun r10 =>
  (pv r10.2 (binA Try.prog .shr 36 (get (prune kp_crc_stepped (prune kp_crc_stepped s.env)) 0) (.v (Go.Value.int Go.IntKind.u64 1)))).bind fun r11 =>
  (pv r11.2 (binA Try.prog .and 36 (.v (Go.Value.int Go.IntKind.u32 2197175160)) r10.1)).bind fun r12 =>
  (pv r12.2 (binA Try.prog .xor 36 r11.1 r12.1)).bind fun r13 =>
  (pv r13.2 (binA Try.prog .add 3 (get (prune kp_crc_stepped (prune kp_crc_stepped (prune kp_crc_stepped s.env))) 7) (.v (Go.Value.int Go.IntKind.i64 1)))).bind fun r14 =>
  some (.normal, ⟨((7, r14.1) :: (0, r13.1) :: (5, r10.1) :: (8, r8.1) :: (prune kp_crc_stepped (prune kp_crc_stepped (prune kp_crc_stepped (prune kp_crc_stepped s.env))))), r14.2⟩)) (some (.exit 0, ⟨((8, r8.1) :: (prune kp_crc_stepped s.env)), r8.2⟩))
noncomputable def B_crc_stepped_0 (_E : FnA) (_n _n0 : Nat) (x7 x6 x4 x0 x1 : AV) (y : Bx) : Option (Ex × S) :=
  (pv y (binA Try.prog .lss 3 x7 x6)).bind fun r1 =>
  condA r1.1 ((pv r1.2 (binA Try.prog .and 36 x0 (.v (Go.Value.int Go.IntKind.u32 1)))).bind fun r2 =>
  (pv r2.2 (unA .neg r2.1)).bind fun r3 =>
  (pv r3.2 (binA Try.prog .shr 36 x0 (.v (Go.Value.int Go.IntKind.u64 1)))).bind fun r4 =>
  (pv r4.2 (binA Try.prog .and 36 (.v (Go.Value.int Go.IntKind.u32 2197175160)) r3.1)).bind fun r5 =>
  (pv r5.2 (binA Try.prog .xor 36 r4.1 r5.1)).bind fun r6 =>
  (pv r6.2 (binA Try.prog .add 3 x7 (.v (Go.Value.int Go.IntKind.i64 1)))).bind fun r7 =>
  some (.normal, ⟨[(7, r7.1), (0, r6.1), (5, r3.1), (8, r1.1), (7, x7), (6, x6), (4, x4), (0, x0), (1, x1)], r7.2⟩)) (some (.exit 0, ⟨[(8, r1.1), (7, x7), (6, x6), (4, x4), (0, x0), (1, x1)], r1.2⟩))
theorem L_crc_stepped_0_lit {E : FnA} {n n0 : Nat} {x7 x6 x4 x0 x1 : AV} {y : Bx} {Q : Ex → S → Prop} (h : Ends (B_crc_stepped_0 E n n0 x7 x6 x4 x0 x1 y) Q) : Ends (L_crc_stepped_0 E n n0 ⟨[(7, x7), (6, x6), (4, x4), (0, x0), (1, x1)], y⟩) Q := by
  rw [show L_crc_stepped_0 E n n0 ⟨[(7, x7), (6, x6), (4, x4), (0, x0), (1, x1)], y⟩ = B_crc_stepped_0 E n n0 x7 x6 x4 x0 x1 y by kernel_rfl]
  exact h
noncomputable def K_crc_stepped_0 (_E : FnA) (_n _n0 : Nat) (t : S) : Option (Ex × S) :=
  some (.ret, ⟨((4, (get t.env 0)) :: (prune kp_crc_stepped t.env)), t.bx⟩)
noncomputable def X_crc_stepped_0 (_E : FnA) (_n _n0 : Nat) (i : Nat) (t : S) : Option (Ex × S) :=
  if i = 0 then some (.ret, ⟨((4, (get t.env 0)) :: (prune kp_crc_stepped t.env)), t.bx⟩) else some (.exit i, ⟨t.env, t.bx⟩)
noncomputable def X_crc_stepped_0_0 (_E : FnA) (_n _n0 : Nat) (x8 x7 x6 x4 x0 x1 : AV) (y : Bx) : Option (Ex × S) :=
  some (.ret, ⟨[(4, x0), (8, x8), (7, x7), (6, x6), (4, x4), (0, x0), (1, x1)], y⟩)
theorem X_crc_stepped_0_0_lit {E : FnA} {n n0 : Nat} {x8 x7 x6 x4 x0 x1 : AV} {y : Bx} {Q : Ex → S → Prop} (h : Ends (X_crc_stepped_0_0 E n n0 x8 x7 x6 x4 x0 x1 y) Q) : Ends (X_crc_stepped_0 E n n0 0 ⟨[(8, x8), (7, x7), (6, x6), (4, x4), (0, x0), (1, x1)], y⟩) Q := by
  rw [show X_crc_stepped_0 E n n0 0 ⟨[(8, x8), (7, x7), (6, x6), (4, x4), (0, x0), (1, x1)], y⟩ = X_crc_stepped_0_0 E n n0 x8 x7 x6 x4 x0 x1 y by kernel_rfl]
  exact h
noncomputable def F_crc_stepped (E : FnA) (n n0 : Nat) (a0 a1 : AV) (bx : Bx) : Option (Ex × S) :=
  exitA (iter ⟨[(7, (.v (Go.Value.int Go.IntKind.i64 0))), (6, a1), (4, (.v (Go.Value.int Go.IntKind.u32 0))), (0, a0), (1, a1)], bx⟩ (L_crc_stepped_0 E n n0) n ⟨[(7, (.v (Go.Value.int Go.IntKind.i64 0))), (6, a1), (4, (.v (Go.Value.int Go.IntKind.u32 0))), (0, a0), (1, a1)], bx⟩) (K_crc_stepped_0 E n n0) (X_crc_stepped_0 E n n0)
theorem c_crc_stepped_eq : Try.f53.body = some c_crc_stepped := by kernel_rfl
theorem d_crc_stepped : drawsOk Try.prog md0 c_crc_stepped = true := by kernel_rfl
theorem F_crc_stepped_eq (E : FnA) (n n0 : Nat) (a0 a1 : AV) (bx : Bx) : evK Try.prog md0 E 19 kp_crc_stepped n n0 c_crc_stepped ⟨[(0, a0), (1, a1)], bx⟩ (fun s => some (.normal, s)) (fun i s => some (.exit i, s)) = F_crc_stepped E n n0 a0 a1 bx := by kernel_rfl

theorem E_crc_stepped (n : Nat) (a0 a1 : AV) (bx : Bx) : evFn cx0 ext0 (n + 1) 53 [a0, a1] bx = fin Try.prog [.tmp 4] (F_crc_stepped (evFn cx0 ext0 n) n bx.length a0 a1 bx) := by
  rw [evFn_eq2 (cx := cx0) (c := c_crc_stepped) rfl Try.func53 c_crc_stepped_eq (of_decide_eq_true (by kernel_rfl)) d_crc_stepped (of_decide_eq_true (by kernel_rfl))]
  exact congrArg (fin Try.prog [.tmp 4]) (F_crc_stepped_eq (evFn cx0 ext0 n) n bx.length a0 a1 bx)

end Go.Sy
