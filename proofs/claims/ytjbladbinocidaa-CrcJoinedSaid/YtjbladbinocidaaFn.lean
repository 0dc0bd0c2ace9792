/-
  What the functions under this seat's laws read as, in the reader's words; no conditions.
-/
import Derived.Test.YtjbladbinocidaaSyStep
import Derived.Test.YtjbladbinocidaaProg
import Derived.KernelRfl
namespace Go.Sy
open Go.Proofs
def kpT : FuncId → Option (List Nat)
  | 3 => some [0, 1, 2, 6, 7, 9, 18]
  | 4 => some [0, 2, 4]
  | 5 => some [0, 2, 3, 4, 5, 6, 7, 18, 61]
  | 6 => some [0, 1, 2, 6, 7, 8, 9, 10, 11, 12, 13, 14, 16]
  | 7 => some [0, 1, 2, 6, 7, 8, 9, 10, 11, 12, 13, 14, 20]
  | 8 => some [0, 1, 4, 5, 6, 8]
  | 9 => some [0]
  | 10 => some [0, 2]
  | 11 => some [0, 2, 3, 5, 7, 8, 9, 10]
  | 12 => some [0, 1, 4, 6]
  | 13 => some [0]
  | 14 => some [0, 1, 2]
  | 15 => some [0, 1, 2, 4, 6, 7, 8, 9, 10]
  | 16 => some [0, 2]
  | 17 => some [0, 1, 2]
  | 18 => some [0, 1, 4, 5, 9]
  | 19 => some [0, 1, 4, 5, 11]
  | 20 => some [0, 1, 4, 5, 11]
  | 21 => some [0, 1, 2, 6, 7, 8, 9, 17]
  | 22 => some [0, 1, 2, 6, 7, 8, 9, 17]
  | 23 => some [0, 1, 4, 5, 6, 7, 8]
  | 24 => some [0, 1, 4, 5, 6, 9, 17]
  | _ => none
def md_l02_CrcOne : FuncId → Md
  | 10 => .boxed
  | _ => .frozen
def mdT : FuncId → FuncId → Md
  | 3 => md_l02_CrcOne
  | _ => md0
noncomputable def cx0 : Cx := { P := Try.prog, md := mdT, kp := kpT }
def ext0 : FnA := fun _ _ _ => none
theorem ext0_ok (f : FuncId) (args : List AV) (bx : Bx) (r : AV) (bx' : Bx) (h : ext0 f args bx = some (r, bx')) : Sound cx0.P f args bx r bx' := by simp [ext0] at h
/-- scupper/scupperlaw02.CrcOne -/
def kp_l02_CrcOne : Option (List Nat) := some [0, 1, 2, 6, 7, 9, 18]
noncomputable def c_l02_CrcOne : Code := Try.f3.body.getD .skip
noncomputable def F_l02_CrcOne (E : FnA) (_n _n0 : Nat) (a0 a1 a2 : AV) (bx : Bx) : Option (Ex × S) :=
  (callA E md_l02_CrcOne bx 9 []).bind fun r1 =>
  (pv r1.2 (unA .not r1.1)).bind fun r2 =>
  condA r2.1 (some (.ret, ⟨[(6, (.v (Go.Value.bool false))), (9, r2.1), (6, (.v (Go.Value.bool false))), (0, a0), (1, a1), (2, a2)], r2.2⟩)) ((pv r2.2 (lenA Try.prog 22 a0)).bind fun r3 =>
  (pv r3.2 (minL false r3.1 [(.v (Go.Value.int Go.IntKind.i64 300))])).bind fun r4 =>
  (pv r4.2 (sliceA Try.prog r4.2 22 a0 none (some r4.1) none)).bind fun r5 =>
  (callA E md_l02_CrcOne r5.2 10 [r5.1]).bind fun r6 =>
  (pv r6.2 (lenA Try.prog 22 r6.1)).bind fun r7 =>
  (pv r7.2 (binA Try.prog .eql 3 r7.1 (.v (Go.Value.int Go.IntKind.i64 0)))).bind fun r8 =>
  condA r8.1 (some (.ret, ⟨[(6, (.v (Go.Value.bool true))), (18, r8.1), (0, r6.1), (9, r2.1), (6, (.v (Go.Value.bool false))), (0, a0), (1, a1), (2, a2)], r8.2⟩)) ((buildSliceA Try.prog r8.2 35 1 [(0, r6.1)]).bind fun r9 =>
  (callA E md_l02_CrcOne r9.2 11 [r9.1]).bind fun r10 =>
  (pv r10.2 (lenA Try.prog 22 r6.1)).bind fun r11 =>
  (callA E md_l02_CrcOne r11.2 12 [a1, r11.1]).bind fun r12 =>
  (pv r12.2 (indexAddrA Try.prog 22 r6.1 r12.1)).bind fun r13 =>
  (pv r13.2 (loadA Try.prog 5 r13.2 r13.1)).bind fun r14 =>
  (pv r14.2 (binA Try.prog .xor 5 r14.1 a2)).bind fun r15 =>
  (pv r15.2 (indexAddrA Try.prog 22 r6.1 r12.1)).bind fun r16 =>
  (stA Try.prog 5 r16.2 r16.1 r15.1).bind fun r17 =>
  (buildSliceA Try.prog r17.2 35 1 [(0, r6.1)]).bind fun r18 =>
  (callA E md_l02_CrcOne r18.2 11 [r18.1]).bind fun r19 =>
  (pv r19.2 (binA Try.prog .eql 25 r19.1 r10.1)).bind fun r20 =>
  (pv r20.2 (binA Try.prog .eql 5 a2 (.v (Go.Value.int Go.IntKind.u8 0)))).bind fun r21 =>
  (pv r21.2 (binA Try.prog .eql 4 r20.1 r21.1)).bind fun r22 =>
  some (.ret, ⟨[(6, r22.1), (7, r10.1), (18, r8.1), (0, r6.1), (9, r2.1), (6, (.v (Go.Value.bool false))), (0, a0), (1, a1), (2, a2)], r22.2⟩)))
theorem c_l02_CrcOne_eq : Try.f3.body = some c_l02_CrcOne := by kernel_rfl
theorem d_l02_CrcOne : drawsOk Try.prog md_l02_CrcOne c_l02_CrcOne = true := by kernel_rfl
theorem F_l02_CrcOne_eq (E : FnA) (n n0 : Nat) (a0 a1 a2 : AV) (bx : Bx) : evK Try.prog md_l02_CrcOne E 40 kp_l02_CrcOne n n0 c_l02_CrcOne ⟨[(0, a0), (1, a1), (2, a2)], bx⟩ (fun s => some (.normal, s)) (fun i s => some (.exit i, s)) = F_l02_CrcOne E n n0 a0 a1 a2 bx := by kernel_rfl

theorem E_l02_CrcOne (n : Nat) (a0 a1 a2 : AV) (bx : Bx) : evFn cx0 ext0 (n + 1) 3 [a0, a1, a2] bx = fin Try.prog [.tmp 6] (F_l02_CrcOne (evFn cx0 ext0 n) n bx.length a0 a1 a2 bx) := by
  rw [evFn_eq2 (cx := cx0) (c := c_l02_CrcOne) rfl Try.func3 c_l02_CrcOne_eq (of_decide_eq_true (by kernel_rfl)) d_l02_CrcOne (of_decide_eq_true (by kernel_rfl))]
  exact congrArg (fin Try.prog [.tmp 6]) (F_l02_CrcOne_eq (evFn cx0 ext0 n) n bx.length a0 a1 a2 bx)

/-- scupper/scupperlaw02.CrcEmpty -/
def kp_l02_CrcEmpty : Option (List Nat) := some [0, 2, 4]
noncomputable def c_l02_CrcEmpty : Code := Try.f4.body.getD .skip
noncomputable def F_l02_CrcEmpty (E : FnA) (_n _n0 : Nat) (a0 : AV) (bx : Bx) : Option (Ex × S) :=
  (callA E md0 bx 9 []).bind fun r1 =>
  (pv r1.2 (unA .not r1.1)).bind fun r2 =>
  condA r2.1 (some (.ret, ⟨[(2, (.v (Go.Value.bool false))), (4, r2.1), (2, (.v (Go.Value.bool false))), (0, a0)], r2.2⟩)) ((pv r2.2 (lenA Try.prog 22 a0)).bind fun r3 =>
  (pv r3.2 (minL false r3.1 [(.v (Go.Value.int Go.IntKind.i64 300))])).bind fun r4 =>
  (pv r4.2 (sliceA Try.prog r4.2 22 a0 none (some r4.1) none)).bind fun r5 =>
  (callA E md0 r5.2 10 [r5.1]).bind fun r6 =>
  (callA E md0 r6.2 11 [(.v (Go.Value.slice none 0 0))]).bind fun r7 =>
  (pv r7.2 (binA Try.prog .eql 25 r7.1 (.v (Go.Value.int Go.IntKind.u32 0)))).bind fun r8 =>
  (gsel true r8.2 (callA E md0 r8.2 13 []) r8.1).bind fun r9 =>
  (gsel true r9.2 (callA E md0 r9.2 14 [r9.1]) r8.1).bind fun r10 =>
  (gsel true r10.2 (pv r10.2 (binA Try.prog .eql 25 r10.1 (.v (Go.Value.int Go.IntKind.u32 0)))) r8.1).bind fun r11 =>
  (pv r11.2 (pickA r8.1 r11.1 (.v (Go.Value.bool false)))).bind fun r12 =>
  (gsel true r12.2 (some (r6.1, r12.2)) r12.1).bind fun r13 =>
  (gsel true r13.2 (buildSliceA Try.prog r13.2 22 0 []) r12.1).bind fun r14 =>
  (gsel true r14.2 (buildSliceA Try.prog r14.2 35 3 [(0, (.v (Go.Value.slice none 0 0))), (1, r13.1), (2, r14.1)]) r12.1).bind fun r15 =>
  (gsel true r15.2 (callA E md0 r15.2 11 [r15.1]) r12.1).bind fun r16 =>
  (gsel true r16.2 (some (r6.1, r16.2)) r12.1).bind fun r17 =>
  (gsel true r17.2 (buildSliceA Try.prog r17.2 35 1 [(0, r17.1)]) r12.1).bind fun r18 =>
  (gsel true r18.2 (callA E md0 r18.2 11 [r18.1]) r12.1).bind fun r19 =>
  (gsel true r19.2 (pv r19.2 (binA Try.prog .eql 25 r16.1 r19.1)) r12.1).bind fun r20 =>
  (pv r20.2 (pickA r12.1 r20.1 (.v (Go.Value.bool false)))).bind fun r21 =>
  (gsel true r21.2 (callA E md0 r21.2 13 []) r21.1).bind fun r22 =>
  (gsel true r22.2 (callA E md0 r22.2 15 [r22.1, (.v (Go.Value.slice none 0 0))]) r21.1).bind fun r23 =>
  (gsel true r23.2 (callA E md0 r23.2 13 []) r21.1).bind fun r24 =>
  (gsel true r24.2 (pv r24.2 (binA Try.prog .eql 30 r23.1 r24.1)) r21.1).bind fun r25 =>
  (pv r25.2 (pickA r21.1 r25.1 (.v (Go.Value.bool false)))).bind fun r26 =>
  (gsel true r26.2 (callA E md0 r26.2 13 []) r26.1).bind fun r27 =>
  (gsel true r27.2 (some (r6.1, r27.2)) r26.1).bind fun r28 =>
  (gsel true r28.2 (callA E md0 r28.2 15 [r27.1, r28.1]) r26.1).bind fun r29 =>
  (gsel true r29.2 (callA E md0 r29.2 14 [r29.1]) r26.1).bind fun r30 =>
  (gsel true r30.2 (some (r6.1, r30.2)) r26.1).bind fun r31 =>
  (gsel true r31.2 (buildSliceA Try.prog r31.2 35 1 [(0, r31.1)]) r26.1).bind fun r32 =>
  (gsel true r32.2 (callA E md0 r32.2 11 [r32.1]) r26.1).bind fun r33 =>
  (gsel true r33.2 (pv r33.2 (binA Try.prog .eql 25 r30.1 r33.1)) r26.1).bind fun r34 =>
  (pv r34.2 (pickA r26.1 r34.1 (.v (Go.Value.bool false)))).bind fun r35 =>
  some (.ret, ⟨[(2, r35.1), (0, r6.1), (4, r2.1), (2, (.v (Go.Value.bool false))), (0, a0)], r35.2⟩))
theorem c_l02_CrcEmpty_eq : Try.f4.body = some c_l02_CrcEmpty := by kernel_rfl
theorem d_l02_CrcEmpty : drawsOk Try.prog md0 c_l02_CrcEmpty = true := by kernel_rfl
theorem F_l02_CrcEmpty_eq (E : FnA) (n n0 : Nat) (a0 : AV) (bx : Bx) : evK Try.prog md0 E 44 kp_l02_CrcEmpty n n0 c_l02_CrcEmpty ⟨[(0, a0)], bx⟩ (fun s => some (.normal, s)) (fun i s => some (.exit i, s)) = F_l02_CrcEmpty E n n0 a0 bx := by kernel_rfl

theorem E_l02_CrcEmpty (n : Nat) (a0 : AV) (bx : Bx) : evFn cx0 ext0 (n + 1) 4 [a0] bx = fin Try.prog [.tmp 2] (F_l02_CrcEmpty (evFn cx0 ext0 n) n bx.length a0 bx) := by
  rw [evFn_eq2 (cx := cx0) (c := c_l02_CrcEmpty) rfl Try.func4 c_l02_CrcEmpty_eq (of_decide_eq_true (by kernel_rfl)) d_l02_CrcEmpty (of_decide_eq_true (by kernel_rfl))]
  exact congrArg (fin Try.prog [.tmp 2]) (F_l02_CrcEmpty_eq (evFn cx0 ext0 n) n bx.length a0 bx)

/-- scupper/scupperlaw02.CrcSums -/
def kp_l02_CrcSums : Option (List Nat) := some [0, 2, 3, 4, 5, 6, 7, 18, 61]
noncomputable def c_l02_CrcSums : Code := Try.f5.body.getD .skip
noncomputable def L_l02_CrcSums_0 (E : FnA) (_n n0 : Nat) (s : S) : Option (Ex × S) :=
  (pv s.bx (lenA Try.prog 35 (get s.env 0))).bind fun r42 =>
  (pv r42.2 (binA Try.prog .lss 3 (get s.env 6) r42.1)).bind fun r43 =>
  (gsel true r43.2 (some ((get s.env 6), r43.2)) r43.1).bind fun r44 =>
  (gsel true r44.2 (pv r44.2 (binA Try.prog .lss 3 r44.1 (.v (Go.Value.int Go.IntKind.i64 8)))) r43.1).bind fun r45 =>
  (pv r45.2 (pickA r43.1 r45.1 (.v (Go.Value.bool false)))).bind fun r46 =>
  condA r46.1 ((pv r46.2 (indexAddrA Try.prog 35 (get (prune kp_l02_CrcSums s.env) 0) (get (prune kp_l02_CrcSums s.env) 6))).bind fun r47 =>
  (pv r47.2 (loadA Try.prog 22 r47.2 r47.1)).bind fun r48 =>
  (pv r48.2 (indexAddrA Try.prog 35 (get (prune kp_l02_CrcSums s.env) 0) (get (prune kp_l02_CrcSums s.env) 6))).bind fun r49 =>
  (pv r49.2 (loadA Try.prog 22 r49.2 r49.1)).bind fun r50 =>
  (pv r50.2 (lenA Try.prog 22 r50.1)).bind fun r51 =>
  (pv r51.2 (minL false r51.1 [(.v (Go.Value.int Go.IntKind.i64 200))])).bind fun r52 =>
  (pv r52.2 (sliceA Try.prog r52.2 22 r48.1 none (some r52.1) none)).bind fun r53 =>
  (callA E md0 r53.2 10 [r53.1]).bind fun r54 =>
  (buildSliceA Try.prog r54.2 35 1 [(0, r54.1)]).bind fun r55 =>
  (appA Try.prog n0 r55.2 35 (get (prune kp_l02_CrcSums (prune kp_l02_CrcSums s.env)) 3) r55.1).bind fun r56 =>
  (appA Try.prog n0 r56.2.2 22 (get (mapE r56.2.1 (prune kp_l02_CrcSums (prune kp_l02_CrcSums s.env))) 4) (r56.2.1 r54.1)).bind fun r57 =>
  (pv r57.2.2 (loadA Try.prog 30 r57.2.2 (get (prune kp_l02_CrcSums (mapE r57.2.1 (mapE r56.2.1 (prune kp_l02_CrcSums (prune kp_l02_CrcSums s.env))))) 5))).bind fun r58 =>
  (callA E md0 r58.2 15 [r58.1, (r57.2.1 (r56.2.1 r54.1))]).bind fun r59 =>
  (stA Try.prog 30 r59.2 (get (prune kp_l02_CrcSums (mapE r57.2.1 (mapE r56.2.1 (prune kp_l02_CrcSums (prune kp_l02_CrcSums s.env))))) 5) r59.1).bind fun r60 =>
  (pv r60.2 (loadA Try.prog 30 r60.2 (get (prune kp_l02_CrcSums (prune kp_l02_CrcSums (mapE r57.2.1 (mapE r56.2.1 (prune kp_l02_CrcSums (prune kp_l02_CrcSums s.env)))))) 5))).bind fun r61 =>
  (callA E md0 r61.2 14 [r61.1]).bind fun r62 =>
  (callA E md0 r62.2 16 [r57.1]).bind fun r63 =>
  (pv r63.2 (binA Try.prog .neq 25 r62.1 r63.1)).bind fun r64 =>
  (gsel false r64.2 (pv r64.2 (loadA Try.prog 30 r64.2 (get (prune kp_l02_CrcSums (prune kp_l02_CrcSums (mapE r57.2.1 (mapE r56.2.1 (prune kp_l02_CrcSums (prune kp_l02_CrcSums s.env)))))) 5))) r64.1).bind fun r65 =>
  (gsel false r65.2 (callA E md0 r65.2 17 [r65.1]) r64.1).bind fun r66 =>
  (gsel false r66.2 (some (r57.1, r66.2)) r64.1).bind fun r67 =>
  (gsel false r67.2 (pv r67.2 (lenA Try.prog 22 r67.1)) r64.1).bind fun r68 =>
  (gsel false r68.2 (pv r68.2 (binA Try.prog .neq 3 r66.1 r68.1)) r64.1).bind fun r69 =>
  (pv r69.2 (pickA r64.1 (.v (Go.Value.bool true)) r69.1)).bind fun r70 =>
  (gsel false r70.2 (pv r70.2 (fieldAddrA Try.prog 30 (get (prune kp_l02_CrcSums (prune kp_l02_CrcSums (mapE r57.2.1 (mapE r56.2.1 (prune kp_l02_CrcSums (prune kp_l02_CrcSums s.env)))))) 5) 0)) r70.1).bind fun r71 =>
  (gsel false r71.2 (pv r71.2 (loadA Try.prog 25 r71.2 r71.1)) r70.1).bind fun r72 =>
  (gsel false r72.2 (some (r57.1, r72.2)) r70.1).bind fun r73 =>
  (gsel false r73.2 (callA E md0 r73.2 18 [(.v (Go.Value.int Go.IntKind.u32 4294967295)), r73.1]) r70.1).bind fun r74 =>
  (gsel false r74.2 (pv r74.2 (binA Try.prog .neq 25 r72.1 r74.1)) r70.1).bind fun r75 =>
  (pv r75.2 (pickA r70.1 (.v (Go.Value.bool true)) r75.1)).bind fun r76 =>
  condA r76.1 (some (.ret, ⟨((2, (.v (Go.Value.bool false))) :: (61, r76.1) :: (4, r57.1) :: (3, (r57.2.1 r56.1)) :: (7, (r57.2.1 (r56.2.1 r54.1))) :: (18, (r57.2.1 (r56.2.1 r46.1))) :: (prune kp_l02_CrcSums (prune kp_l02_CrcSums (prune kp_l02_CrcSums (prune kp_l02_CrcSums (mapE r57.2.1 (mapE r56.2.1 (prune kp_l02_CrcSums (prune kp_l02_CrcSums s.env))))))))), r76.2⟩)) ((pv r76.2 (binA Try.prog .add 3 (get (prune kp_l02_CrcSums (prune kp_l02_CrcSums (prune kp_l02_CrcSums (mapE r57.2.1 (mapE r56.2.1 (prune kp_l02_CrcSums (prune kp_l02_CrcSums s.env))))))) 6) (.v (Go.Value.int Go.IntKind.i64 1)))).bind fun r77 =>
  some (.normal, ⟨((6, r77.1) :: (61, r76.1) :: (4, r57.1) :: (3, (r57.2.1 r56.1)) :: (7, (r57.2.1 (r56.2.1 r54.1))) :: (18, (r57.2.1 (r56.2.1 r46.1))) :: (prune kp_l02_CrcSums (prune kp_l02_CrcSums (prune kp_l02_CrcSums (prune kp_l02_CrcSums (mapE r57.2.1 (mapE r56.2.1 (prune kp_l02_CrcSums (prune kp_l02_CrcSums s.env))))))))), r77.2⟩))) (some (.exit 0, ⟨((18, r46.1) :: (prune kp_l02_CrcSums s.env)), r46.2⟩))
noncomputable def B_l02_CrcSums_0 (E : FnA) (_n n0 : Nat) (x6 x5 x4 x3 x2 x0 : AV) (y : Bx) : Option (Ex × S) :=
  (pv y (lenA Try.prog 35 x0)).bind fun r6 =>
  (pv r6.2 (binA Try.prog .lss 3 x6 r6.1)).bind fun r7 =>
  (gsel true r7.2 (some (x6, r7.2)) r7.1).bind fun r8 =>
  (gsel true r8.2 (pv r8.2 (binA Try.prog .lss 3 r8.1 (.v (Go.Value.int Go.IntKind.i64 8)))) r7.1).bind fun r9 =>
  (pv r9.2 (pickA r7.1 r9.1 (.v (Go.Value.bool false)))).bind fun r10 =>
  condA r10.1 ((pv r10.2 (indexAddrA Try.prog 35 x0 x6)).bind fun r11 =>
  (pv r11.2 (loadA Try.prog 22 r11.2 r11.1)).bind fun r12 =>
  (pv r12.2 (indexAddrA Try.prog 35 x0 x6)).bind fun r13 =>
  (pv r13.2 (loadA Try.prog 22 r13.2 r13.1)).bind fun r14 =>
  (pv r14.2 (lenA Try.prog 22 r14.1)).bind fun r15 =>
  (pv r15.2 (minL false r15.1 [(.v (Go.Value.int Go.IntKind.i64 200))])).bind fun r16 =>
  (pv r16.2 (sliceA Try.prog r16.2 22 r12.1 none (some r16.1) none)).bind fun r17 =>
  (callA E md0 r17.2 10 [r17.1]).bind fun r18 =>
  (buildSliceA Try.prog r18.2 35 1 [(0, r18.1)]).bind fun r19 =>
  (appA Try.prog n0 r19.2 35 x3 r19.1).bind fun r20 =>
  (appA Try.prog n0 r20.2.2 22 (r20.2.1 x4) (r20.2.1 r18.1)).bind fun r21 =>
  (pv r21.2.2 (loadA Try.prog 30 r21.2.2 (r21.2.1 (r20.2.1 x5)))).bind fun r22 =>
  (callA E md0 r22.2 15 [r22.1, (r21.2.1 (r20.2.1 r18.1))]).bind fun r23 =>
  (stA Try.prog 30 r23.2 (r21.2.1 (r20.2.1 x5)) r23.1).bind fun r24 =>
  (pv r24.2 (loadA Try.prog 30 r24.2 (r21.2.1 (r20.2.1 x5)))).bind fun r25 =>
  (callA E md0 r25.2 14 [r25.1]).bind fun r26 =>
  (callA E md0 r26.2 16 [r21.1]).bind fun r27 =>
  (pv r27.2 (binA Try.prog .neq 25 r26.1 r27.1)).bind fun r28 =>
  (gsel false r28.2 (pv r28.2 (loadA Try.prog 30 r28.2 (r21.2.1 (r20.2.1 x5)))) r28.1).bind fun r29 =>
  (gsel false r29.2 (callA E md0 r29.2 17 [r29.1]) r28.1).bind fun r30 =>
  (gsel false r30.2 (some (r21.1, r30.2)) r28.1).bind fun r31 =>
  (gsel false r31.2 (pv r31.2 (lenA Try.prog 22 r31.1)) r28.1).bind fun r32 =>
  (gsel false r32.2 (pv r32.2 (binA Try.prog .neq 3 r30.1 r32.1)) r28.1).bind fun r33 =>
  (pv r33.2 (pickA r28.1 (.v (Go.Value.bool true)) r33.1)).bind fun r34 =>
  (gsel false r34.2 (pv r34.2 (fieldAddrA Try.prog 30 (r21.2.1 (r20.2.1 x5)) 0)) r34.1).bind fun r35 =>
  (gsel false r35.2 (pv r35.2 (loadA Try.prog 25 r35.2 r35.1)) r34.1).bind fun r36 =>
  (gsel false r36.2 (some (r21.1, r36.2)) r34.1).bind fun r37 =>
  (gsel false r37.2 (callA E md0 r37.2 18 [(.v (Go.Value.int Go.IntKind.u32 4294967295)), r37.1]) r34.1).bind fun r38 =>
  (gsel false r38.2 (pv r38.2 (binA Try.prog .neq 25 r36.1 r38.1)) r34.1).bind fun r39 =>
  (pv r39.2 (pickA r34.1 (.v (Go.Value.bool true)) r39.1)).bind fun r40 =>
  condA r40.1 (some (.ret, ⟨[(2, (.v (Go.Value.bool false))), (61, r40.1), (4, r21.1), (3, (r21.2.1 r20.1)), (7, (r21.2.1 (r20.2.1 r18.1))), (18, (r21.2.1 (r20.2.1 r10.1))), (6, (r21.2.1 (r20.2.1 x6))), (5, (r21.2.1 (r20.2.1 x5))), (4, (r21.2.1 (r20.2.1 x4))), (3, (r21.2.1 (r20.2.1 x3))), (2, (r21.2.1 (r20.2.1 x2))), (0, (r21.2.1 (r20.2.1 x0)))], r40.2⟩)) ((pv r40.2 (binA Try.prog .add 3 (r21.2.1 (r20.2.1 x6)) (.v (Go.Value.int Go.IntKind.i64 1)))).bind fun r41 =>
  some (.normal, ⟨[(6, r41.1), (61, r40.1), (4, r21.1), (3, (r21.2.1 r20.1)), (7, (r21.2.1 (r20.2.1 r18.1))), (18, (r21.2.1 (r20.2.1 r10.1))), (6, (r21.2.1 (r20.2.1 x6))), (5, (r21.2.1 (r20.2.1 x5))), (4, (r21.2.1 (r20.2.1 x4))), (3, (r21.2.1 (r20.2.1 x3))), (2, (r21.2.1 (r20.2.1 x2))), (0, (r21.2.1 (r20.2.1 x0)))], r41.2⟩))) (some (.exit 0, ⟨[(18, r10.1), (6, x6), (5, x5), (4, x4), (3, x3), (2, x2), (0, x0)], r10.2⟩))
theorem L_l02_CrcSums_0_lit {E : FnA} {n n0 : Nat} {x6 x5 x4 x3 x2 x0 : AV} {y : Bx} {Q : Ex → S → Prop} (h : Ends (B_l02_CrcSums_0 E n n0 x6 x5 x4 x3 x2 x0 y) Q) : Ends (L_l02_CrcSums_0 E n n0 ⟨[(6, x6), (5, x5), (4, x4), (3, x3), (2, x2), (0, x0)], y⟩) Q := by
  rw [show L_l02_CrcSums_0 E n n0 ⟨[(6, x6), (5, x5), (4, x4), (3, x3), (2, x2), (0, x0)], y⟩ = B_l02_CrcSums_0 E n n0 x6 x5 x4 x3 x2 x0 y by kernel_rfl]
  exact h
noncomputable def K_l02_CrcSums_0 (E : FnA) (_n _n0 : Nat) (t : S) : Option (Ex × S) :=
  (callA E md0 t.bx 11 [(get t.env 3)]).bind fun r83 =>
  (callA E md0 r83.2 16 [(get t.env 4)]).bind fun r84 =>
  (pv r84.2 (binA Try.prog .eql 25 r83.1 r84.1)).bind fun r85 =>
  (gsel true r85.2 (callA E md0 r85.2 9 []) r85.1).bind fun r86 =>
  (pv r86.2 (pickA r85.1 r86.1 (.v (Go.Value.bool false)))).bind fun r87 =>
  some (.ret, ⟨((2, r87.1) :: (prune kp_l02_CrcSums t.env)), r87.2⟩)
noncomputable def X_l02_CrcSums_0 (E : FnA) (_n _n0 : Nat) (i : Nat) (t : S) : Option (Ex × S) :=
  if i = 0 then (callA E md0 t.bx 11 [(get t.env 3)]).bind fun r78 =>
  (callA E md0 r78.2 16 [(get t.env 4)]).bind fun r79 =>
  (pv r79.2 (binA Try.prog .eql 25 r78.1 r79.1)).bind fun r80 =>
  (gsel true r80.2 (callA E md0 r80.2 9 []) r80.1).bind fun r81 =>
  (pv r81.2 (pickA r80.1 r81.1 (.v (Go.Value.bool false)))).bind fun r82 =>
  some (.ret, ⟨((2, r82.1) :: (prune kp_l02_CrcSums t.env)), r82.2⟩) else some (.exit i, ⟨t.env, t.bx⟩)
noncomputable def X_l02_CrcSums_0_0 (E : FnA) (_n _n0 : Nat) (x18 x6 x5 x4 x3 x2 x0 : AV) (y : Bx) : Option (Ex × S) :=
  (callA E md0 y 11 [x3]).bind fun r88 =>
  (callA E md0 r88.2 16 [x4]).bind fun r89 =>
  (pv r89.2 (binA Try.prog .eql 25 r88.1 r89.1)).bind fun r90 =>
  (gsel true r90.2 (callA E md0 r90.2 9 []) r90.1).bind fun r91 =>
  (pv r91.2 (pickA r90.1 r91.1 (.v (Go.Value.bool false)))).bind fun r92 =>
  some (.ret, ⟨[(2, r92.1), (18, x18), (6, x6), (5, x5), (4, x4), (3, x3), (2, x2), (0, x0)], r92.2⟩)
theorem X_l02_CrcSums_0_0_lit {E : FnA} {n n0 : Nat} {x18 x6 x5 x4 x3 x2 x0 : AV} {y : Bx} {Q : Ex → S → Prop} (h : Ends (X_l02_CrcSums_0_0 E n n0 x18 x6 x5 x4 x3 x2 x0 y) Q) : Ends (X_l02_CrcSums_0 E n n0 0 ⟨[(18, x18), (6, x6), (5, x5), (4, x4), (3, x3), (2, x2), (0, x0)], y⟩) Q := by
  rw [show X_l02_CrcSums_0 E n n0 0 ⟨[(18, x18), (6, x6), (5, x5), (4, x4), (3, x3), (2, x2), (0, x0)], y⟩ = X_l02_CrcSums_0_0 E n n0 x18 x6 x5 x4 x3 x2 x0 y by kernel_rfl]
  exact h
noncomputable def F_l02_CrcSums (E : FnA) (n n0 : Nat) (a0 : AV) (bx : Bx) : Option (Ex × S) :=
  (buildSliceA Try.prog bx 35 0 []).bind fun r1 =>
  (buildSliceA Try.prog r1.2 22 0 []).bind fun r2 =>
  (callA E md0 r2.2 13 []).bind fun r3 =>
  (allocA Try.prog r3.2 30).bind fun r4 =>
  (stA Try.prog 30 r4.2 r4.1 r3.1).bind fun r5 =>
  exitA (iter ⟨[(6, (.v (Go.Value.int Go.IntKind.i64 0))), (5, r4.1), (4, r2.1), (3, r1.1), (2, (.v (Go.Value.bool false))), (0, a0)], r5.2⟩ (L_l02_CrcSums_0 E n n0) n ⟨[(6, (.v (Go.Value.int Go.IntKind.i64 0))), (5, r4.1), (4, r2.1), (3, r1.1), (2, (.v (Go.Value.bool false))), (0, a0)], r5.2⟩) (K_l02_CrcSums_0 E n n0) (X_l02_CrcSums_0 E n n0)
theorem c_l02_CrcSums_eq : Try.f5.body = some c_l02_CrcSums := by kernel_rfl
theorem d_l02_CrcSums : drawsOk Try.prog md0 c_l02_CrcSums = true := by kernel_rfl
theorem F_l02_CrcSums_eq (E : FnA) (n n0 : Nat) (a0 : AV) (bx : Bx) : evK Try.prog md0 E 70 kp_l02_CrcSums n n0 c_l02_CrcSums ⟨[(0, a0)], bx⟩ (fun s => some (.normal, s)) (fun i s => some (.exit i, s)) = F_l02_CrcSums E n n0 a0 bx := by kernel_rfl

theorem E_l02_CrcSums (n : Nat) (a0 : AV) (bx : Bx) : evFn cx0 ext0 (n + 1) 5 [a0] bx = fin Try.prog [.tmp 2] (F_l02_CrcSums (evFn cx0 ext0 n) n bx.length a0 bx) := by
  rw [evFn_eq2 (cx := cx0) (c := c_l02_CrcSums) rfl Try.func5 c_l02_CrcSums_eq (of_decide_eq_true (by kernel_rfl)) d_l02_CrcSums (of_decide_eq_true (by kernel_rfl))]
  exact congrArg (fin Try.prog [.tmp 2]) (F_l02_CrcSums_eq (evFn cx0 ext0 n) n bx.length a0 bx)

/-- scupper/scupperlaw02.CrcShifts -/
def kp_l02_CrcShifts : Option (List Nat) := some [0, 1, 2, 6, 7, 8, 9, 10, 11, 12, 13, 14, 16]
noncomputable def c_l02_CrcShifts : Code := Try.f6.body.getD .skip
noncomputable def F_l02_CrcShifts (E : FnA) (_n _n0 : Nat) (a0 a1 a2 : AV) (bx : Bx) : Option (Ex × S) :=
  (callA E md0 bx 9 []).bind fun r1 =>
  (pv r1.2 (unA .not r1.1)).bind fun r2 =>
  condA r2.1 (some (.ret, ⟨[(6, (.v (Go.Value.bool false))), (16, r2.1), (6, (.v (Go.Value.bool false))), (0, a0), (1, a1), (2, a2)], r2.2⟩)) ((convA Try.prog r2.2 5 3 a1).bind fun r3 =>
  (convA Try.prog r3.2 5 3 a2).bind fun r4 =>
  (pv r4.2 (binA Try.prog .add 3 r3.1 r4.1)).bind fun r5 =>
  (callA E md0 r5.2 19 [a0, r5.1]).bind fun r6 =>
  (pv r6.2 (tupA r6.1 0)).bind fun r7 =>
  (pv r7.2 (tupA r6.1 1)).bind fun r8 =>
  (convA Try.prog r8.2 5 3 a1).bind fun r9 =>
  (callA E md0 r9.2 19 [a0, r9.1]).bind fun r10 =>
  (pv r10.2 (tupA r10.1 0)).bind fun r11 =>
  (pv r11.2 (tupA r10.1 1)).bind fun r12 =>
  (convA Try.prog r12.2 5 3 a2).bind fun r13 =>
  (callA E md0 r13.2 19 [r11.1, r13.1]).bind fun r14 =>
  (pv r14.2 (tupA r14.1 0)).bind fun r15 =>
  (pv r15.2 (tupA r14.1 1)).bind fun r16 =>
  (callA E md0 r16.2 19 [a0, (.v (Go.Value.int Go.IntKind.i64 0))]).bind fun r17 =>
  (pv r17.2 (tupA r17.1 0)).bind fun r18 =>
  (pv r18.2 (tupA r17.1 1)).bind fun r19 =>
  (pv r19.2 (binA Try.prog .eql 40 r8.1 (.v (Go.Value.int Go.IntKind.i64 0)))).bind fun r20 =>
  (gsel true r20.2 (some (r12.1, r20.2)) r20.1).bind fun r21 =>
  (gsel true r21.2 (pv r21.2 (binA Try.prog .eql 40 r21.1 (.v (Go.Value.int Go.IntKind.i64 0)))) r20.1).bind fun r22 =>
  (pv r22.2 (pickA r20.1 r22.1 (.v (Go.Value.bool false)))).bind fun r23 =>
  (gsel true r23.2 (some (r16.1, r23.2)) r23.1).bind fun r24 =>
  (gsel true r24.2 (pv r24.2 (binA Try.prog .eql 40 r24.1 (.v (Go.Value.int Go.IntKind.i64 0)))) r23.1).bind fun r25 =>
  (pv r25.2 (pickA r23.1 r25.1 (.v (Go.Value.bool false)))).bind fun r26 =>
  (gsel true r26.2 (some (r19.1, r26.2)) r26.1).bind fun r27 =>
  (gsel true r27.2 (pv r27.2 (binA Try.prog .eql 40 r27.1 (.v (Go.Value.int Go.IntKind.i64 0)))) r26.1).bind fun r28 =>
  (pv r28.2 (pickA r26.1 r28.1 (.v (Go.Value.bool false)))).bind fun r29 =>
  (gsel true r29.2 (some (r7.1, r29.2)) r29.1).bind fun r30 =>
  (gsel true r30.2 (some (r15.1, r30.2)) r29.1).bind fun r31 =>
  (gsel true r31.2 (pv r31.2 (binA Try.prog .eql 25 r30.1 r31.1)) r29.1).bind fun r32 =>
  (pv r32.2 (pickA r29.1 r32.1 (.v (Go.Value.bool false)))).bind fun r33 =>
  (gsel true r33.2 (some (r18.1, r33.2)) r33.1).bind fun r34 =>
  (gsel true r34.2 (some (a0, r34.2)) r33.1).bind fun r35 =>
  (gsel true r35.2 (pv r35.2 (binA Try.prog .eql 25 r34.1 r35.1)) r33.1).bind fun r36 =>
  (pv r36.2 (pickA r33.1 r36.1 (.v (Go.Value.bool false)))).bind fun r37 =>
  some (.ret, ⟨[(6, r37.1), (14, r19.1), (13, r18.1), (12, r16.1), (11, r15.1), (10, r12.1), (9, r11.1), (8, r8.1), (7, r7.1), (16, r2.1), (6, (.v (Go.Value.bool false))), (0, a0), (1, a1), (2, a2)], r37.2⟩))
theorem c_l02_CrcShifts_eq : Try.f6.body = some c_l02_CrcShifts := by kernel_rfl
theorem d_l02_CrcShifts : drawsOk Try.prog md0 c_l02_CrcShifts = true := by kernel_rfl
theorem F_l02_CrcShifts_eq (E : FnA) (n n0 : Nat) (a0 a1 a2 : AV) (bx : Bx) : evK Try.prog md0 E 70 kp_l02_CrcShifts n n0 c_l02_CrcShifts ⟨[(0, a0), (1, a1), (2, a2)], bx⟩ (fun s => some (.normal, s)) (fun i s => some (.exit i, s)) = F_l02_CrcShifts E n n0 a0 a1 a2 bx := by kernel_rfl

theorem E_l02_CrcShifts (n : Nat) (a0 a1 a2 : AV) (bx : Bx) : evFn cx0 ext0 (n + 1) 6 [a0, a1, a2] bx = fin Try.prog [.tmp 6] (F_l02_CrcShifts (evFn cx0 ext0 n) n bx.length a0 a1 a2 bx) := by
  rw [evFn_eq2 (cx := cx0) (c := c_l02_CrcShifts) rfl Try.func6 c_l02_CrcShifts_eq (of_decide_eq_true (by kernel_rfl)) d_l02_CrcShifts (of_decide_eq_true (by kernel_rfl))]
  exact congrArg (fin Try.prog [.tmp 6]) (F_l02_CrcShifts_eq (evFn cx0 ext0 n) n bx.length a0 a1 a2 bx)

/-- scupper/scupperlaw02.CrcJoins -/
def kp_l02_CrcJoins : Option (List Nat) := some [0, 1, 2, 6, 7, 8, 9, 10, 11, 12, 13, 14, 20]
noncomputable def c_l02_CrcJoins : Code := Try.f7.body.getD .skip
noncomputable def F_l02_CrcJoins (E : FnA) (_n _n0 : Nat) (a0 a1 a2 : AV) (bx : Bx) : Option (Ex × S) :=
  (pv bx (binA Try.prog .gtr 3 a2 (.v (Go.Value.int Go.IntKind.i64 300)))).bind fun r1 =>
  (gsel true r1.2 (some (a2, r1.2)) r1.1).bind fun r2 =>
  (gsel true r2.2 (pv r2.2 (binA Try.prog .leq 3 r2.1 (.v (Go.Value.int Go.IntKind.i64 65536)))) r1.1).bind fun r3 =>
  (pv r3.2 (pickA r1.1 r3.1 (.v (Go.Value.bool false)))).bind fun r4 =>
  condA r4.1 ((pv r4.2 (binA Try.prog .rem 3 a2 (.v (Go.Value.int Go.IntKind.i64 301)))).bind fun r5 =>
  (callA E md0 r5.2 19 [a0, r5.1]).bind fun r6 =>
  (pv r6.2 (tupA r6.1 0)).bind fun r7 =>
  (pv r7.2 (tupA r6.1 1)).bind fun r8 =>
  (callA E md0 r8.2 20 [a0, r5.1]).bind fun r9 =>
  (pv r9.2 (tupA r9.1 0)).bind fun r10 =>
  (pv r10.2 (tupA r9.1 1)).bind fun r11 =>
  (callA E md0 r11.2 21 [a0, a1, r5.1]).bind fun r12 =>
  (pv r12.2 (tupA r12.1 0)).bind fun r13 =>
  (pv r13.2 (tupA r12.1 1)).bind fun r14 =>
  (callA E md0 r14.2 22 [a0, a1, r5.1]).bind fun r15 =>
  (pv r15.2 (tupA r15.1 0)).bind fun r16 =>
  (pv r16.2 (tupA r15.1 1)).bind fun r17 =>
  (pv r17.2 (binA Try.prog .eql 25 r7.1 r10.1)).bind fun r18 =>
  (gsel true r18.2 (some (r8.1, r18.2)) r18.1).bind fun r19 =>
  (gsel true r19.2 (some (r11.1, r19.2)) r18.1).bind fun r20 =>
  (gsel true r20.2 (pv r20.2 (binA Try.prog .eql 40 r19.1 r20.1)) r18.1).bind fun r21 =>
  (pv r21.2 (pickA r18.1 r21.1 (.v (Go.Value.bool false)))).bind fun r22 =>
  (gsel true r22.2 (some (r13.1, r22.2)) r22.1).bind fun r23 =>
  (gsel true r23.2 (some (r16.1, r23.2)) r22.1).bind fun r24 =>
  (gsel true r24.2 (pv r24.2 (binA Try.prog .eql 25 r23.1 r24.1)) r22.1).bind fun r25 =>
  (pv r25.2 (pickA r22.1 r25.1 (.v (Go.Value.bool false)))).bind fun r26 =>
  (gsel true r26.2 (some (r14.1, r26.2)) r26.1).bind fun r27 =>
  (gsel true r27.2 (some (r17.1, r27.2)) r26.1).bind fun r28 =>
  (gsel true r28.2 (pv r28.2 (binA Try.prog .eql 40 r27.1 r28.1)) r26.1).bind fun r29 =>
  (pv r29.2 (pickA r26.1 r29.1 (.v (Go.Value.bool false)))).bind fun r30 =>
  (gsel true r30.2 (callA E md0 r30.2 9 []) r30.1).bind fun r31 =>
  (pv r31.2 (pickA r30.1 r31.1 (.v (Go.Value.bool false)))).bind fun r32 =>
  some (.ret, ⟨[(6, r32.1), (14, r17.1), (13, r16.1), (12, r14.1), (11, r13.1), (10, r11.1), (9, r10.1), (8, r8.1), (7, r7.1), (2, r5.1), (20, r4.1), (6, (.v (Go.Value.bool false))), (0, a0), (1, a1), (2, a2)], r32.2⟩)) ((callA E md0 r4.2 19 [a0, a2]).bind fun r33 =>
  (pv r33.2 (tupA r33.1 0)).bind fun r34 =>
  (pv r34.2 (tupA r33.1 1)).bind fun r35 =>
  (callA E md0 r35.2 20 [a0, a2]).bind fun r36 =>
  (pv r36.2 (tupA r36.1 0)).bind fun r37 =>
  (pv r37.2 (tupA r36.1 1)).bind fun r38 =>
  (callA E md0 r38.2 21 [a0, a1, a2]).bind fun r39 =>
  (pv r39.2 (tupA r39.1 0)).bind fun r40 =>
  (pv r40.2 (tupA r39.1 1)).bind fun r41 =>
  (callA E md0 r41.2 22 [a0, a1, a2]).bind fun r42 =>
  (pv r42.2 (tupA r42.1 0)).bind fun r43 =>
  (pv r43.2 (tupA r42.1 1)).bind fun r44 =>
  (pv r44.2 (binA Try.prog .eql 25 r34.1 r37.1)).bind fun r45 =>
  (gsel true r45.2 (some (r35.1, r45.2)) r45.1).bind fun r46 =>
  (gsel true r46.2 (some (r38.1, r46.2)) r45.1).bind fun r47 =>
  (gsel true r47.2 (pv r47.2 (binA Try.prog .eql 40 r46.1 r47.1)) r45.1).bind fun r48 =>
  (pv r48.2 (pickA r45.1 r48.1 (.v (Go.Value.bool false)))).bind fun r49 =>
  (gsel true r49.2 (some (r40.1, r49.2)) r49.1).bind fun r50 =>
  (gsel true r50.2 (some (r43.1, r50.2)) r49.1).bind fun r51 =>
  (gsel true r51.2 (pv r51.2 (binA Try.prog .eql 25 r50.1 r51.1)) r49.1).bind fun r52 =>
  (pv r52.2 (pickA r49.1 r52.1 (.v (Go.Value.bool false)))).bind fun r53 =>
  (gsel true r53.2 (some (r41.1, r53.2)) r53.1).bind fun r54 =>
  (gsel true r54.2 (some (r44.1, r54.2)) r53.1).bind fun r55 =>
  (gsel true r55.2 (pv r55.2 (binA Try.prog .eql 40 r54.1 r55.1)) r53.1).bind fun r56 =>
  (pv r56.2 (pickA r53.1 r56.1 (.v (Go.Value.bool false)))).bind fun r57 =>
  (gsel true r57.2 (callA E md0 r57.2 9 []) r57.1).bind fun r58 =>
  (pv r58.2 (pickA r57.1 r58.1 (.v (Go.Value.bool false)))).bind fun r59 =>
  some (.ret, ⟨[(6, r59.1), (14, r44.1), (13, r43.1), (12, r41.1), (11, r40.1), (10, r38.1), (9, r37.1), (8, r35.1), (7, r34.1), (20, r4.1), (6, (.v (Go.Value.bool false))), (0, a0), (1, a1), (2, a2)], r59.2⟩))
theorem c_l02_CrcJoins_eq : Try.f7.body = some c_l02_CrcJoins := by kernel_rfl
theorem d_l02_CrcJoins : drawsOk Try.prog md0 c_l02_CrcJoins = true := by kernel_rfl
theorem F_l02_CrcJoins_eq (E : FnA) (n n0 : Nat) (a0 a1 a2 : AV) (bx : Bx) : evK Try.prog md0 E 70 kp_l02_CrcJoins n n0 c_l02_CrcJoins ⟨[(0, a0), (1, a1), (2, a2)], bx⟩ (fun s => some (.normal, s)) (fun i s => some (.exit i, s)) = F_l02_CrcJoins E n n0 a0 a1 a2 bx := by kernel_rfl

theorem E_l02_CrcJoins (n : Nat) (a0 a1 a2 : AV) (bx : Bx) : evFn cx0 ext0 (n + 1) 7 [a0, a1, a2] bx = fin Try.prog [.tmp 6] (F_l02_CrcJoins (evFn cx0 ext0 n) n bx.length a0 a1 a2 bx) := by
  rw [evFn_eq2 (cx := cx0) (c := c_l02_CrcJoins) rfl Try.func7 c_l02_CrcJoins_eq (of_decide_eq_true (by kernel_rfl)) d_l02_CrcJoins (of_decide_eq_true (by kernel_rfl))]
  exact congrArg (fin Try.prog [.tmp 6]) (F_l02_CrcJoins_eq (evFn cx0 ext0 n) n bx.length a0 a1 a2 bx)

/-- scupper/scupperlaw02.CrcJoined -/
def kp_l02_CrcJoined : Option (List Nat) := some [0, 1, 4, 5, 6, 8]
noncomputable def c_l02_CrcJoined : Code := Try.f8.body.getD .skip
noncomputable def F_l02_CrcJoined (E : FnA) (_n _n0 : Nat) (a0 a1 : AV) (bx : Bx) : Option (Ex × S) :=
  (callA E md0 bx 9 []).bind fun r1 =>
  (pv r1.2 (unA .not r1.1)).bind fun r2 =>
  condA r2.1 (some (.ret, ⟨[(4, (.v (Go.Value.bool false))), (8, r2.1), (4, (.v (Go.Value.bool false))), (0, a0), (1, a1)], r2.2⟩)) ((pv r2.2 (lenA Try.prog 22 a0)).bind fun r3 =>
  (pv r3.2 (minL false r3.1 [(.v (Go.Value.int Go.IntKind.i64 300))])).bind fun r4 =>
  (pv r4.2 (sliceA Try.prog r4.2 22 a0 none (some r4.1) none)).bind fun r5 =>
  (pv r5.2 (lenA Try.prog 22 a1)).bind fun r6 =>
  (pv r6.2 (minL false r6.1 [(.v (Go.Value.int Go.IntKind.i64 300))])).bind fun r7 =>
  (pv r7.2 (sliceA Try.prog r7.2 22 a1 none (some r7.1) none)).bind fun r8 =>
  (buildSliceA Try.prog r8.2 35 1 [(0, r5.1)]).bind fun r9 =>
  (callA E md0 r9.2 11 [r9.1]).bind fun r10 =>
  (buildSliceA Try.prog r10.2 35 1 [(0, r8.1)]).bind fun r11 =>
  (callA E md0 r11.2 11 [r11.1]).bind fun r12 =>
  (pv r12.2 (lenA Try.prog 22 r8.1)).bind fun r13 =>
  (callA E md0 r13.2 21 [r10.1, r12.1, r13.1]).bind fun r14 =>
  (pv r14.2 (tupA r14.1 0)).bind fun r15 =>
  (pv r15.2 (tupA r14.1 1)).bind fun r16 =>
  (pv r16.2 (binA Try.prog .eql 40 r16.1 (.v (Go.Value.int Go.IntKind.i64 0)))).bind fun r17 =>
  (gsel true r17.2 (some (r15.1, r17.2)) r17.1).bind fun r18 =>
  (gsel true r18.2 (some (r5.1, r18.2)) r17.1).bind fun r19 =>
  (gsel true r19.2 (some (r8.1, r19.2)) r17.1).bind fun r20 =>
  (gsel true r20.2 (buildSliceA Try.prog r20.2 35 2 [(0, r19.1), (1, r20.1)]) r17.1).bind fun r21 =>
  (gsel true r21.2 (callA E md0 r21.2 11 [r21.1]) r17.1).bind fun r22 =>
  (gsel true r22.2 (pv r22.2 (binA Try.prog .eql 25 r18.1 r22.1)) r17.1).bind fun r23 =>
  (pv r23.2 (pickA r17.1 r23.1 (.v (Go.Value.bool false)))).bind fun r24 =>
  some (.ret, ⟨[(4, r24.1), (6, r16.1), (5, r15.1), (1, r8.1), (0, r5.1), (8, r2.1), (4, (.v (Go.Value.bool false))), (0, a0), (1, a1)], r24.2⟩))
theorem c_l02_CrcJoined_eq : Try.f8.body = some c_l02_CrcJoined := by kernel_rfl
theorem d_l02_CrcJoined : drawsOk Try.prog md0 c_l02_CrcJoined = true := by kernel_rfl
theorem F_l02_CrcJoined_eq (E : FnA) (n n0 : Nat) (a0 a1 : AV) (bx : Bx) : evK Try.prog md0 E 41 kp_l02_CrcJoined n n0 c_l02_CrcJoined ⟨[(0, a0), (1, a1)], bx⟩ (fun s => some (.normal, s)) (fun i s => some (.exit i, s)) = F_l02_CrcJoined E n n0 a0 a1 bx := by kernel_rfl

theorem E_l02_CrcJoined (n : Nat) (a0 a1 : AV) (bx : Bx) : evFn cx0 ext0 (n + 1) 8 [a0, a1] bx = fin Try.prog [.tmp 4] (F_l02_CrcJoined (evFn cx0 ext0 n) n bx.length a0 a1 bx) := by
  rw [evFn_eq2 (cx := cx0) (c := c_l02_CrcJoined) rfl Try.func8 c_l02_CrcJoined_eq (of_decide_eq_true (by kernel_rfl)) d_l02_CrcJoined (of_decide_eq_true (by kernel_rfl))]
  exact congrArg (fin Try.prog [.tmp 4]) (F_l02_CrcJoined_eq (evFn cx0 ext0 n) n bx.length a0 a1 bx)

/-- scupper/scupperlaw02.works -/
def kp_l02_works : Option (List Nat) := some [0]
noncomputable def c_l02_works : Code := Try.f9.body.getD .skip
noncomputable def F_l02_works (E : FnA) (_n _n0 : Nat) (bx : Bx) : Option (Ex × S) :=
  (buildSliceA Try.prog bx 22 5 [(0, (.v (Go.Value.int Go.IntKind.u8 49))), (1, (.v (Go.Value.int Go.IntKind.u8 50))), (2, (.v (Go.Value.int Go.IntKind.u8 51))), (3, (.v (Go.Value.int Go.IntKind.u8 52))), (4, (.v (Go.Value.int Go.IntKind.u8 53)))]).bind fun r1 =>
  (convA Try.prog r1.2 22 22 r1.1).bind fun r2 =>
  (buildSliceA Try.prog r2.2 22 4 [(0, (.v (Go.Value.int Go.IntKind.u8 54))), (1, (.v (Go.Value.int Go.IntKind.u8 55))), (2, (.v (Go.Value.int Go.IntKind.u8 56))), (3, (.v (Go.Value.int Go.IntKind.u8 57)))]).bind fun r3 =>
  (convA Try.prog r3.2 22 22 r3.1).bind fun r4 =>
  (buildSliceA Try.prog r4.2 35 2 [(0, r2.1), (1, r4.1)]).bind fun r5 =>
  (callA E md0 r5.2 11 [r5.1]).bind fun r6 =>
  (pv r6.2 (binA Try.prog .eql 25 r6.1 (.v (Go.Value.int Go.IntKind.u32 3808858755)))).bind fun r7 =>
  some (.ret, ⟨[(0, r7.1), (0, (.v (Go.Value.bool false)))], r7.2⟩)
theorem c_l02_works_eq : Try.f9.body = some c_l02_works := by kernel_rfl
theorem d_l02_works : drawsOk Try.prog md0 c_l02_works = true := by kernel_rfl
theorem F_l02_works_eq (E : FnA) (n n0 : Nat) (bx : Bx) : evK Try.prog md0 E 8 kp_l02_works n n0 c_l02_works ⟨[], bx⟩ (fun s => some (.normal, s)) (fun i s => some (.exit i, s)) = F_l02_works E n n0  bx := by kernel_rfl

theorem E_l02_works (n : Nat) (bx : Bx) : evFn cx0 ext0 (n + 1) 9 [] bx = fin Try.prog [.tmp 0] (F_l02_works (evFn cx0 ext0 n) n bx.length  bx) := by
  rw [evFn_eq2 (cx := cx0) (c := c_l02_works) rfl Try.func9 c_l02_works_eq (of_decide_eq_true (by kernel_rfl)) d_l02_works (of_decide_eq_true (by kernel_rfl))]
  exact congrArg (fin Try.prog [.tmp 0]) (F_l02_works_eq (evFn cx0 ext0 n) n bx.length  bx)

/-- scupper/scupperbase.Bytes -/
def kp_base_Bytes : Option (List Nat) := some [0, 2]
noncomputable def c_base_Bytes : Code := Try.f10.body.getD .skip
noncomputable def F_base_Bytes (_E : FnA) (_n n0 : Nat) (a0 : AV) (bx : Bx) : Option (Ex × S) :=
  (some (AV.bsl (List.length bx) 0 0 0, bx ++ [[]])).bind fun r1 =>
  (buildSliceA Try.prog r1.2 22 0 []).bind fun r2 =>
  (appA Try.prog n0 r2.2 22 r2.1 a0).bind fun r3 =>
  some (.ret, ⟨[(2, r3.1), (2, (r3.2.1 r1.1)), (0, (r3.2.1 a0))], r3.2.2⟩)
theorem c_base_Bytes_eq : Try.f10.body = some c_base_Bytes := by kernel_rfl
theorem d_base_Bytes : drawsOk Try.prog md0 c_base_Bytes = true := by kernel_rfl
theorem F_base_Bytes_eq (E : FnA) (n n0 : Nat) (a0 : AV) (bx : Bx) : evK Try.prog md0 E 6 kp_base_Bytes n n0 c_base_Bytes ⟨[(0, a0)], bx⟩ (fun s => some (.normal, s)) (fun i s => some (.exit i, s)) = F_base_Bytes E n n0 a0 bx := by kernel_rfl

theorem E_base_Bytes (n : Nat) (a0 : AV) (bx : Bx) : evFn cx0 ext0 (n + 1) 10 [a0] bx = fin Try.prog [.tmp 2] (F_base_Bytes (evFn cx0 ext0 n) n bx.length a0 bx) := by
  rw [evFn_eq2 (cx := cx0) (c := c_base_Bytes) rfl Try.func10 c_base_Bytes_eq (of_decide_eq_true (by kernel_rfl)) d_base_Bytes (of_decide_eq_true (by kernel_rfl))]
  exact congrArg (fin Try.prog [.tmp 2]) (F_base_Bytes_eq (evFn cx0 ext0 n) n bx.length a0 bx)

/-- scupper/crc.Of -/
def kp_crc_Of : Option (List Nat) := some [0, 2, 3, 5, 7, 8, 9, 10]
noncomputable def c_crc_Of : Code := Try.f11.body.getD .skip
noncomputable def L_crc_Of_0 (E : FnA) (_n _n0 : Nat) (s : S) : Option (Ex × S) :=
  (pv s.bx (binA Try.prog .lss 3 (get s.env 9) (get s.env 8))).bind fun r12 =>
  condA r12.1 ((pv r12.2 (indexAddrA Try.prog 35 (get (prune kp_crc_Of s.env) 7) (get (prune kp_crc_Of s.env) 9))).bind fun r13 =>
  (pv r13.2 (loadA Try.prog 22 r13.2 r13.1)).bind fun r14 =>
  (pv r14.2 (loadA Try.prog 30 r14.2 (get (prune kp_crc_Of (prune kp_crc_Of s.env)) 3))).bind fun r15 =>
  (callA E md0 r15.2 15 [r15.1, r14.1]).bind fun r16 =>
  (stA Try.prog 30 r16.2 (get (prune kp_crc_Of (prune kp_crc_Of s.env)) 3) r16.1).bind fun r17 =>
  (pv r17.2 (binA Try.prog .add 3 (get (prune kp_crc_Of (prune kp_crc_Of (prune kp_crc_Of s.env))) 9) (.v (Go.Value.int Go.IntKind.i64 1)))).bind fun r18 =>
  some (.normal, ⟨((9, r18.1) :: (5, r14.1) :: (10, r12.1) :: (prune kp_crc_Of (prune kp_crc_Of (prune kp_crc_Of (prune kp_crc_Of s.env))))), r18.2⟩)) (some (.exit 0, ⟨((10, r12.1) :: (prune kp_crc_Of s.env)), r12.2⟩))
noncomputable def B_crc_Of_0 (E : FnA) (_n _n0 : Nat) (x9 x8 x7 x3 x2 x0 : AV) (y : Bx) : Option (Ex × S) :=
  (pv y (binA Try.prog .lss 3 x9 x8)).bind fun r5 =>
  condA r5.1 ((pv r5.2 (indexAddrA Try.prog 35 x7 x9)).bind fun r6 =>
  (pv r6.2 (loadA Try.prog 22 r6.2 r6.1)).bind fun r7 =>
  (pv r7.2 (loadA Try.prog 30 r7.2 x3)).bind fun r8 =>
  (callA E md0 r8.2 15 [r8.1, r7.1]).bind fun r9 =>
  (stA Try.prog 30 r9.2 x3 r9.1).bind fun r10 =>
  (pv r10.2 (binA Try.prog .add 3 x9 (.v (Go.Value.int Go.IntKind.i64 1)))).bind fun r11 =>
  some (.normal, ⟨[(9, r11.1), (5, r7.1), (10, r5.1), (9, x9), (8, x8), (7, x7), (3, x3), (2, x2), (0, x0)], r11.2⟩)) (some (.exit 0, ⟨[(10, r5.1), (9, x9), (8, x8), (7, x7), (3, x3), (2, x2), (0, x0)], r5.2⟩))
theorem L_crc_Of_0_lit {E : FnA} {n n0 : Nat} {x9 x8 x7 x3 x2 x0 : AV} {y : Bx} {Q : Ex → S → Prop} (h : Ends (B_crc_Of_0 E n n0 x9 x8 x7 x3 x2 x0 y) Q) : Ends (L_crc_Of_0 E n n0 ⟨[(9, x9), (8, x8), (7, x7), (3, x3), (2, x2), (0, x0)], y⟩) Q := by
  rw [show L_crc_Of_0 E n n0 ⟨[(9, x9), (8, x8), (7, x7), (3, x3), (2, x2), (0, x0)], y⟩ = B_crc_Of_0 E n n0 x9 x8 x7 x3 x2 x0 y by kernel_rfl]
  exact h
noncomputable def K_crc_Of_0 (E : FnA) (_n _n0 : Nat) (t : S) : Option (Ex × S) :=
  (pv t.bx (loadA Try.prog 30 t.bx (get t.env 3))).bind fun r21 =>
  (callA E md0 r21.2 14 [r21.1]).bind fun r22 =>
  some (.ret, ⟨((2, r22.1) :: (prune kp_crc_Of t.env)), r22.2⟩)
noncomputable def X_crc_Of_0 (E : FnA) (_n _n0 : Nat) (i : Nat) (t : S) : Option (Ex × S) :=
  if i = 0 then (pv t.bx (loadA Try.prog 30 t.bx (get t.env 3))).bind fun r19 =>
  (callA E md0 r19.2 14 [r19.1]).bind fun r20 =>
  some (.ret, ⟨((2, r20.1) :: (prune kp_crc_Of t.env)), r20.2⟩) else some (.exit i, ⟨t.env, t.bx⟩)
noncomputable def X_crc_Of_0_0 (E : FnA) (_n _n0 : Nat) (x10 x9 x8 x7 x3 x2 x0 : AV) (y : Bx) : Option (Ex × S) :=
  (pv y (loadA Try.prog 30 y x3)).bind fun r23 =>
  (callA E md0 r23.2 14 [r23.1]).bind fun r24 =>
  some (.ret, ⟨[(2, r24.1), (10, x10), (9, x9), (8, x8), (7, x7), (3, x3), (2, x2), (0, x0)], r24.2⟩)
theorem X_crc_Of_0_0_lit {E : FnA} {n n0 : Nat} {x10 x9 x8 x7 x3 x2 x0 : AV} {y : Bx} {Q : Ex → S → Prop} (h : Ends (X_crc_Of_0_0 E n n0 x10 x9 x8 x7 x3 x2 x0 y) Q) : Ends (X_crc_Of_0 E n n0 0 ⟨[(10, x10), (9, x9), (8, x8), (7, x7), (3, x3), (2, x2), (0, x0)], y⟩) Q := by
  rw [show X_crc_Of_0 E n n0 0 ⟨[(10, x10), (9, x9), (8, x8), (7, x7), (3, x3), (2, x2), (0, x0)], y⟩ = X_crc_Of_0_0 E n n0 x10 x9 x8 x7 x3 x2 x0 y by kernel_rfl]
  exact h
noncomputable def F_crc_Of (E : FnA) (n n0 : Nat) (a0 : AV) (bx : Bx) : Option (Ex × S) :=
  (callA E md0 bx 13 []).bind fun r1 =>
  (allocA Try.prog r1.2 30).bind fun r2 =>
  (stA Try.prog 30 r2.2 r2.1 r1.1).bind fun r3 =>
  (pv r3.2 (lenA Try.prog 35 a0)).bind fun r4 =>
  exitA (iter ⟨[(9, (.v (Go.Value.int Go.IntKind.i64 0))), (8, r4.1), (7, a0), (3, r2.1), (2, (.v (Go.Value.int Go.IntKind.u32 0))), (0, a0)], r4.2⟩ (L_crc_Of_0 E n n0) n ⟨[(9, (.v (Go.Value.int Go.IntKind.i64 0))), (8, r4.1), (7, a0), (3, r2.1), (2, (.v (Go.Value.int Go.IntKind.u32 0))), (0, a0)], r4.2⟩) (K_crc_Of_0 E n n0) (X_crc_Of_0 E n n0)
theorem c_crc_Of_eq : Try.f11.body = some c_crc_Of := by kernel_rfl
theorem d_crc_Of : drawsOk Try.prog md0 c_crc_Of = true := by kernel_rfl
theorem F_crc_Of_eq (E : FnA) (n n0 : Nat) (a0 : AV) (bx : Bx) : evK Try.prog md0 E 19 kp_crc_Of n n0 c_crc_Of ⟨[(0, a0)], bx⟩ (fun s => some (.normal, s)) (fun i s => some (.exit i, s)) = F_crc_Of E n n0 a0 bx := by kernel_rfl

theorem E_crc_Of (n : Nat) (a0 : AV) (bx : Bx) : evFn cx0 ext0 (n + 1) 11 [a0] bx = fin Try.prog [.tmp 2] (F_crc_Of (evFn cx0 ext0 n) n bx.length a0 bx) := by
  rw [evFn_eq2 (cx := cx0) (c := c_crc_Of) rfl Try.func11 c_crc_Of_eq (of_decide_eq_true (by kernel_rfl)) d_crc_Of (of_decide_eq_true (by kernel_rfl))]
  exact congrArg (fin Try.prog [.tmp 2]) (F_crc_Of_eq (evFn cx0 ext0 n) n bx.length a0 bx)

/-- scupper/scupperbase.Among -/
def kp_base_Among : Option (List Nat) := some [0, 1, 4, 6]
noncomputable def c_base_Among : Code := Try.f12.body.getD .skip
noncomputable def F_base_Among (_E : FnA) (_n _n0 : Nat) (a0 a1 : AV) (bx : Bx) : Option (Ex × S) :=
  (pv bx (binA Try.prog .lss 3 a1 (.v (Go.Value.int Go.IntKind.i64 1)))).bind fun r1 =>
  condA r1.1 (some (.ret, ⟨[(4, (.v (Go.Value.int Go.IntKind.i64 0))), (6, r1.1), (4, (.v (Go.Value.int Go.IntKind.i64 0))), (0, a0), (1, a1)], r1.2⟩)) ((convA Try.prog r1.2 3 47 a0).bind fun r2 =>
  (convA Try.prog r2.2 3 47 a1).bind fun r3 =>
  (pv r3.2 (binA Try.prog .rem 47 r2.1 r3.1)).bind fun r4 =>
  (convA Try.prog r4.2 47 3 r4.1).bind fun r5 =>
  some (.ret, ⟨[(4, r5.1), (6, r1.1), (4, (.v (Go.Value.int Go.IntKind.i64 0))), (0, a0), (1, a1)], r5.2⟩))
theorem c_base_Among_eq : Try.f12.body = some c_base_Among := by kernel_rfl
theorem d_base_Among : drawsOk Try.prog md0 c_base_Among = true := by kernel_rfl
theorem F_base_Among_eq (E : FnA) (n n0 : Nat) (a0 a1 : AV) (bx : Bx) : evK Try.prog md0 E 13 kp_base_Among n n0 c_base_Among ⟨[(0, a0), (1, a1)], bx⟩ (fun s => some (.normal, s)) (fun i s => some (.exit i, s)) = F_base_Among E n n0 a0 a1 bx := by kernel_rfl

theorem E_base_Among (n : Nat) (a0 a1 : AV) (bx : Bx) : evFn cx0 ext0 (n + 1) 12 [a0, a1] bx = fin Try.prog [.tmp 4] (F_base_Among (evFn cx0 ext0 n) n bx.length a0 a1 bx) := by
  rw [evFn_eq2 (cx := cx0) (c := c_base_Among) rfl Try.func12 c_base_Among_eq (of_decide_eq_true (by kernel_rfl)) d_base_Among (of_decide_eq_true (by kernel_rfl))]
  exact congrArg (fin Try.prog [.tmp 4]) (F_base_Among_eq (evFn cx0 ext0 n) n bx.length a0 a1 bx)

/-- scupper/crc.Begin -/
def kp_crc_Begin : Option (List Nat) := some [0]
noncomputable def c_crc_Begin : Code := Try.f13.body.getD .skip
noncomputable def F_crc_Begin (_E : FnA) (_n _n0 : Nat) (bx : Bx) : Option (Ex × S) :=
  (allocA Try.prog bx 30).bind fun r1 =>
  (pv r1.2 (buildA Try.prog 30 [(0, (.v (Go.Value.int Go.IntKind.u32 4294967295)))])).bind fun r2 =>
  (stA Try.prog 30 r2.2 r1.1 r2.1).bind fun r3 =>
  some (.ret, ⟨[(0, r1.1)], r3.2⟩)
theorem c_crc_Begin_eq : Try.f13.body = some c_crc_Begin := by kernel_rfl
theorem d_crc_Begin : drawsOk Try.prog md0 c_crc_Begin = true := by kernel_rfl
theorem F_crc_Begin_eq (E : FnA) (n n0 : Nat) (bx : Bx) : evK Try.prog md0 E 2 kp_crc_Begin n n0 c_crc_Begin ⟨[], bx⟩ (fun s => some (.normal, s)) (fun i s => some (.exit i, s)) = F_crc_Begin E n n0  bx := by kernel_rfl

theorem E_crc_Begin (n : Nat) (bx : Bx) : evFn cx0 ext0 (n + 1) 13 [] bx = fin Try.prog [.cell 0 30] (F_crc_Begin (evFn cx0 ext0 n) n bx.length  bx) := by
  rw [evFn_eq2 (cx := cx0) (c := c_crc_Begin) rfl Try.func13 c_crc_Begin_eq (of_decide_eq_true (by kernel_rfl)) d_crc_Begin (of_decide_eq_true (by kernel_rfl))]
  exact congrArg (fin Try.prog [.cell 0 30]) (F_crc_Begin_eq (evFn cx0 ext0 n) n bx.length  bx)

/-- (scupper/crc.Sum).Value -/
def kp_crc_Sum_Value : Option (List Nat) := some [0, 1, 2]
noncomputable def c_crc_Sum_Value : Code := Try.f14.body.getD .skip
noncomputable def F_crc_Sum_Value (_E : FnA) (_n _n0 : Nat) (a0 : AV) (bx : Bx) : Option (Ex × S) :=
  (boxA bx a0).bind fun r1 =>
  (pv r1.2 (fieldAddrA Try.prog 30 r1.1 0)).bind fun r2 =>
  (pv r2.2 (loadA Try.prog 25 r2.2 r2.1)).bind fun r3 =>
  (pv r3.2 (unA .xor r3.1)).bind fun r4 =>
  some (.ret, ⟨[(2, r4.1), (2, (.v (Go.Value.int Go.IntKind.u32 0))), (1, r1.1), (0, a0)], r4.2⟩)
theorem c_crc_Sum_Value_eq : Try.f14.body = some c_crc_Sum_Value := by kernel_rfl
theorem d_crc_Sum_Value : drawsOk Try.prog md0 c_crc_Sum_Value = true := by kernel_rfl
theorem F_crc_Sum_Value_eq (E : FnA) (n n0 : Nat) (a0 : AV) (bx : Bx) : evK Try.prog md0 E 6 kp_crc_Sum_Value n n0 c_crc_Sum_Value ⟨[(0, a0)], bx⟩ (fun s => some (.normal, s)) (fun i s => some (.exit i, s)) = F_crc_Sum_Value E n n0 a0 bx := by kernel_rfl

theorem E_crc_Sum_Value (n : Nat) (a0 : AV) (bx : Bx) : evFn cx0 ext0 (n + 1) 14 [a0] bx = fin Try.prog [.tmp 2] (F_crc_Sum_Value (evFn cx0 ext0 n) n bx.length a0 bx) := by
  rw [evFn_eq2 (cx := cx0) (c := c_crc_Sum_Value) rfl Try.func14 c_crc_Sum_Value_eq (of_decide_eq_true (by kernel_rfl)) d_crc_Sum_Value (of_decide_eq_true (by kernel_rfl))]
  exact congrArg (fin Try.prog [.tmp 2]) (F_crc_Sum_Value_eq (evFn cx0 ext0 n) n bx.length a0 bx)

/-- (scupper/crc.Sum).Add -/
def kp_crc_Sum_Add : Option (List Nat) := some [0, 1, 2, 4, 6, 7, 8, 9, 10]
noncomputable def c_crc_Sum_Add : Code := Try.f15.body.getD .skip
noncomputable def L_crc_Sum_Add_0 (E : FnA) (_n _n0 : Nat) (s : S) : Option (Ex × S) :=
  (pv s.bx (binA Try.prog .lss 3 (get s.env 9) (get s.env 8))).bind fun r15 =>
  condA r15.1 ((pv r15.2 (indexAddrA Try.prog 22 (get (prune kp_crc_Sum_Add s.env) 7) (get (prune kp_crc_Sum_Add s.env) 9))).bind fun r16 =>
  (pv r16.2 (loadA Try.prog 5 r16.2 r16.1)).bind fun r17 =>
  (pv r17.2 (fieldAddrA Try.prog 30 (get (prune kp_crc_Sum_Add (prune kp_crc_Sum_Add s.env)) 2) 0)).bind fun r18 =>
  (pv r18.2 (loadA Try.prog 25 r18.2 r18.1)).bind fun r19 =>
  (convA Try.prog r19.2 5 25 r17.1).bind fun r20 =>
  (pv r20.2 (binA Try.prog .xor 25 r19.1 r20.1)).bind fun r21 =>
  (callA E md0 r21.2 23 [r21.1, (.v (Go.Value.int Go.IntKind.i64 8))]).bind fun r22 =>
  (pv r22.2 (fieldAddrA Try.prog 30 (get (prune kp_crc_Sum_Add (prune kp_crc_Sum_Add s.env)) 2) 0)).bind fun r23 =>
  (stA Try.prog 25 r23.2 r23.1 r22.1).bind fun r24 =>
  (pv r24.2 (binA Try.prog .add 3 (get (prune kp_crc_Sum_Add (prune kp_crc_Sum_Add (prune kp_crc_Sum_Add s.env))) 9) (.v (Go.Value.int Go.IntKind.i64 1)))).bind fun r25 =>
  some (.normal, ⟨((9, r25.1) :: (6, r17.1) :: (10, r15.1) :: (prune kp_crc_Sum_Add (prune kp_crc_Sum_Add (prune kp_crc_Sum_Add (prune kp_crc_Sum_Add s.env))))), r25.2⟩)) (some (.exit 0, ⟨((10, r15.1) :: (prune kp_crc_Sum_Add s.env)), r15.2⟩))
noncomputable def B_crc_Sum_Add_0 (E : FnA) (_n _n0 : Nat) (x9 x8 x7 x4 x2 x0 x1 : AV) (y : Bx) : Option (Ex × S) :=
  (pv y (binA Try.prog .lss 3 x9 x8)).bind fun r4 =>
  condA r4.1 ((pv r4.2 (indexAddrA Try.prog 22 x7 x9)).bind fun r5 =>
  (pv r5.2 (loadA Try.prog 5 r5.2 r5.1)).bind fun r6 =>
  (pv r6.2 (fieldAddrA Try.prog 30 x2 0)).bind fun r7 =>
  (pv r7.2 (loadA Try.prog 25 r7.2 r7.1)).bind fun r8 =>
  (convA Try.prog r8.2 5 25 r6.1).bind fun r9 =>
  (pv r9.2 (binA Try.prog .xor 25 r8.1 r9.1)).bind fun r10 =>
  (callA E md0 r10.2 23 [r10.1, (.v (Go.Value.int Go.IntKind.i64 8))]).bind fun r11 =>
  (pv r11.2 (fieldAddrA Try.prog 30 x2 0)).bind fun r12 =>
  (stA Try.prog 25 r12.2 r12.1 r11.1).bind fun r13 =>
  (pv r13.2 (binA Try.prog .add 3 x9 (.v (Go.Value.int Go.IntKind.i64 1)))).bind fun r14 =>
  some (.normal, ⟨[(9, r14.1), (6, r6.1), (10, r4.1), (9, x9), (8, x8), (7, x7), (4, x4), (2, x2), (0, x0), (1, x1)], r14.2⟩)) (some (.exit 0, ⟨[(10, r4.1), (9, x9), (8, x8), (7, x7), (4, x4), (2, x2), (0, x0), (1, x1)], r4.2⟩))
theorem L_crc_Sum_Add_0_lit {E : FnA} {n n0 : Nat} {x9 x8 x7 x4 x2 x0 x1 : AV} {y : Bx} {Q : Ex → S → Prop} (h : Ends (B_crc_Sum_Add_0 E n n0 x9 x8 x7 x4 x2 x0 x1 y) Q) : Ends (L_crc_Sum_Add_0 E n n0 ⟨[(9, x9), (8, x8), (7, x7), (4, x4), (2, x2), (0, x0), (1, x1)], y⟩) Q := by
  rw [show L_crc_Sum_Add_0 E n n0 ⟨[(9, x9), (8, x8), (7, x7), (4, x4), (2, x2), (0, x0), (1, x1)], y⟩ = B_crc_Sum_Add_0 E n n0 x9 x8 x7 x4 x2 x0 x1 y by kernel_rfl]
  exact h
noncomputable def K_crc_Sum_Add_0 (_E : FnA) (_n _n0 : Nat) (t : S) : Option (Ex × S) :=
  (pv t.bx (fieldAddrA Try.prog 30 (get t.env 2) 1)).bind fun r34 =>
  (pv r34.2 (loadA Try.prog 3 r34.2 r34.1)).bind fun r35 =>
  (pv r35.2 (lenA Try.prog 22 (get t.env 1))).bind fun r36 =>
  (pv r36.2 (binA Try.prog .add 3 r35.1 r36.1)).bind fun r37 =>
  (pv r37.2 (fieldAddrA Try.prog 30 (get t.env 2) 1)).bind fun r38 =>
  (stA Try.prog 3 r38.2 r38.1 r37.1).bind fun r39 =>
  (pv r39.2 (loadA Try.prog 30 r39.2 (get (prune kp_crc_Sum_Add t.env) 2))).bind fun r40 =>
  (stA Try.prog 30 r40.2 (get (prune kp_crc_Sum_Add t.env) 4) r40.1).bind fun r41 =>
  some (.ret, ⟨(prune kp_crc_Sum_Add (prune kp_crc_Sum_Add t.env)), r41.2⟩)
noncomputable def X_crc_Sum_Add_0 (_E : FnA) (_n _n0 : Nat) (i : Nat) (t : S) : Option (Ex × S) :=
  if i = 0 then (pv t.bx (fieldAddrA Try.prog 30 (get t.env 2) 1)).bind fun r26 =>
  (pv r26.2 (loadA Try.prog 3 r26.2 r26.1)).bind fun r27 =>
  (pv r27.2 (lenA Try.prog 22 (get t.env 1))).bind fun r28 =>
  (pv r28.2 (binA Try.prog .add 3 r27.1 r28.1)).bind fun r29 =>
  (pv r29.2 (fieldAddrA Try.prog 30 (get t.env 2) 1)).bind fun r30 =>
  (stA Try.prog 3 r30.2 r30.1 r29.1).bind fun r31 =>
  (pv r31.2 (loadA Try.prog 30 r31.2 (get (prune kp_crc_Sum_Add t.env) 2))).bind fun r32 =>
  (stA Try.prog 30 r32.2 (get (prune kp_crc_Sum_Add t.env) 4) r32.1).bind fun r33 =>
  some (.ret, ⟨(prune kp_crc_Sum_Add (prune kp_crc_Sum_Add t.env)), r33.2⟩) else some (.exit i, ⟨t.env, t.bx⟩)
noncomputable def X_crc_Sum_Add_0_0 (_E : FnA) (_n _n0 : Nat) (x10 x9 x8 x7 x4 x2 x0 x1 : AV) (y : Bx) : Option (Ex × S) :=
  (pv y (fieldAddrA Try.prog 30 x2 1)).bind fun r42 =>
  (pv r42.2 (loadA Try.prog 3 r42.2 r42.1)).bind fun r43 =>
  (pv r43.2 (lenA Try.prog 22 x1)).bind fun r44 =>
  (pv r44.2 (binA Try.prog .add 3 r43.1 r44.1)).bind fun r45 =>
  (pv r45.2 (fieldAddrA Try.prog 30 x2 1)).bind fun r46 =>
  (stA Try.prog 3 r46.2 r46.1 r45.1).bind fun r47 =>
  (pv r47.2 (loadA Try.prog 30 r47.2 x2)).bind fun r48 =>
  (stA Try.prog 30 r48.2 x4 r48.1).bind fun r49 =>
  some (.ret, ⟨[(10, x10), (9, x9), (8, x8), (7, x7), (4, x4), (2, x2), (0, x0), (1, x1)], r49.2⟩)
theorem X_crc_Sum_Add_0_0_lit {E : FnA} {n n0 : Nat} {x10 x9 x8 x7 x4 x2 x0 x1 : AV} {y : Bx} {Q : Ex → S → Prop} (h : Ends (X_crc_Sum_Add_0_0 E n n0 x10 x9 x8 x7 x4 x2 x0 x1 y) Q) : Ends (X_crc_Sum_Add_0 E n n0 0 ⟨[(10, x10), (9, x9), (8, x8), (7, x7), (4, x4), (2, x2), (0, x0), (1, x1)], y⟩) Q := by
  rw [show X_crc_Sum_Add_0 E n n0 0 ⟨[(10, x10), (9, x9), (8, x8), (7, x7), (4, x4), (2, x2), (0, x0), (1, x1)], y⟩ = X_crc_Sum_Add_0_0 E n n0 x10 x9 x8 x7 x4 x2 x0 x1 y by kernel_rfl]
  exact h
noncomputable def F_crc_Sum_Add (E : FnA) (n n0 : Nat) (a0 a1 : AV) (bx : Bx) : Option (Ex × S) :=
  (boxA bx a0).bind fun r1 =>
  (allocA Try.prog r1.2 30).bind fun r2 =>
  (pv r2.2 (lenA Try.prog 22 a1)).bind fun r3 =>
  exitA (iter ⟨[(9, (.v (Go.Value.int Go.IntKind.i64 0))), (8, r3.1), (7, a1), (4, r2.1), (2, r1.1), (0, a0), (1, a1)], r3.2⟩ (L_crc_Sum_Add_0 E n n0) n ⟨[(9, (.v (Go.Value.int Go.IntKind.i64 0))), (8, r3.1), (7, a1), (4, r2.1), (2, r1.1), (0, a0), (1, a1)], r3.2⟩) (K_crc_Sum_Add_0 E n n0) (X_crc_Sum_Add_0 E n n0)
theorem c_crc_Sum_Add_eq : Try.f15.body = some c_crc_Sum_Add := by kernel_rfl
theorem d_crc_Sum_Add : drawsOk Try.prog md0 c_crc_Sum_Add = true := by kernel_rfl
theorem F_crc_Sum_Add_eq (E : FnA) (n n0 : Nat) (a0 a1 : AV) (bx : Bx) : evK Try.prog md0 E 28 kp_crc_Sum_Add n n0 c_crc_Sum_Add ⟨[(0, a0), (1, a1)], bx⟩ (fun s => some (.normal, s)) (fun i s => some (.exit i, s)) = F_crc_Sum_Add E n n0 a0 a1 bx := by kernel_rfl

theorem E_crc_Sum_Add (n : Nat) (a0 a1 : AV) (bx : Bx) : evFn cx0 ext0 (n + 1) 15 [a0, a1] bx = fin Try.prog [.cell 4 30] (F_crc_Sum_Add (evFn cx0 ext0 n) n bx.length a0 a1 bx) := by
  rw [evFn_eq2 (cx := cx0) (c := c_crc_Sum_Add) rfl Try.func15 c_crc_Sum_Add_eq (of_decide_eq_true (by kernel_rfl)) d_crc_Sum_Add (of_decide_eq_true (by kernel_rfl))]
  exact congrArg (fin Try.prog [.cell 4 30]) (F_crc_Sum_Add_eq (evFn cx0 ext0 n) n bx.length a0 a1 bx)

/-- scupper/scupperref02.Of -/
def kp_r02_Of : Option (List Nat) := some [0, 2]
noncomputable def c_r02_Of : Code := Try.f16.body.getD .skip
noncomputable def F_r02_Of (E : FnA) (_n _n0 : Nat) (a0 : AV) (bx : Bx) : Option (Ex × S) :=
  (callA E md0 bx 18 [(.v (Go.Value.int Go.IntKind.u32 4294967295)), a0]).bind fun r1 =>
  (pv r1.2 (binA Try.prog .sub 25 (.v (Go.Value.int Go.IntKind.u32 4294967295)) r1.1)).bind fun r2 =>
  some (.ret, ⟨[(2, r2.1), (2, (.v (Go.Value.int Go.IntKind.u32 0))), (0, a0)], r2.2⟩)
theorem c_r02_Of_eq : Try.f16.body = some c_r02_Of := by kernel_rfl
theorem d_r02_Of : drawsOk Try.prog md0 c_r02_Of = true := by kernel_rfl
theorem F_r02_Of_eq (E : FnA) (n n0 : Nat) (a0 : AV) (bx : Bx) : evK Try.prog md0 E 6 kp_r02_Of n n0 c_r02_Of ⟨[(0, a0)], bx⟩ (fun s => some (.normal, s)) (fun i s => some (.exit i, s)) = F_r02_Of E n n0 a0 bx := by kernel_rfl

theorem E_r02_Of (n : Nat) (a0 : AV) (bx : Bx) : evFn cx0 ext0 (n + 1) 16 [a0] bx = fin Try.prog [.tmp 2] (F_r02_Of (evFn cx0 ext0 n) n bx.length a0 bx) := by
  rw [evFn_eq2 (cx := cx0) (c := c_r02_Of) rfl Try.func16 c_r02_Of_eq (of_decide_eq_true (by kernel_rfl)) d_r02_Of (of_decide_eq_true (by kernel_rfl))]
  exact congrArg (fin Try.prog [.tmp 2]) (F_r02_Of_eq (evFn cx0 ext0 n) n bx.length a0 bx)

/-- (scupper/crc.Sum).Len -/
def kp_crc_Sum_Len : Option (List Nat) := some [0, 1, 2]
noncomputable def c_crc_Sum_Len : Code := Try.f17.body.getD .skip
noncomputable def F_crc_Sum_Len (_E : FnA) (_n _n0 : Nat) (a0 : AV) (bx : Bx) : Option (Ex × S) :=
  (boxA bx a0).bind fun r1 =>
  (pv r1.2 (fieldAddrA Try.prog 30 r1.1 1)).bind fun r2 =>
  (pv r2.2 (loadA Try.prog 3 r2.2 r2.1)).bind fun r3 =>
  some (.ret, ⟨[(2, r3.1), (2, (.v (Go.Value.int Go.IntKind.i64 0))), (1, r1.1), (0, a0)], r3.2⟩)
theorem c_crc_Sum_Len_eq : Try.f17.body = some c_crc_Sum_Len := by kernel_rfl
theorem d_crc_Sum_Len : drawsOk Try.prog md0 c_crc_Sum_Len = true := by kernel_rfl
theorem F_crc_Sum_Len_eq (E : FnA) (n n0 : Nat) (a0 : AV) (bx : Bx) : evK Try.prog md0 E 5 kp_crc_Sum_Len n n0 c_crc_Sum_Len ⟨[(0, a0)], bx⟩ (fun s => some (.normal, s)) (fun i s => some (.exit i, s)) = F_crc_Sum_Len E n n0 a0 bx := by kernel_rfl

theorem E_crc_Sum_Len (n : Nat) (a0 : AV) (bx : Bx) : evFn cx0 ext0 (n + 1) 17 [a0] bx = fin Try.prog [.tmp 2] (F_crc_Sum_Len (evFn cx0 ext0 n) n bx.length a0 bx) := by
  rw [evFn_eq2 (cx := cx0) (c := c_crc_Sum_Len) rfl Try.func17 c_crc_Sum_Len_eq (of_decide_eq_true (by kernel_rfl)) d_crc_Sum_Len (of_decide_eq_true (by kernel_rfl))]
  exact congrArg (fin Try.prog [.tmp 2]) (F_crc_Sum_Len_eq (evFn cx0 ext0 n) n bx.length a0 bx)

/-- scupper/scupperref02.Add -/
def kp_r02_Add : Option (List Nat) := some [0, 1, 4, 5, 9]
noncomputable def c_r02_Add : Code := Try.f18.body.getD .skip
noncomputable def L_r02_Add_0 (E : FnA) (_n _n0 : Nat) (s : S) : Option (Ex × S) :=
  (pv s.bx (lenA Try.prog 22 (get s.env 1))).bind fun r9 =>
  (pv r9.2 (binA Try.prog .lss 3 (get s.env 5) r9.1)).bind fun r10 =>
  condA r10.1 ((pv r10.2 (indexAddrA Try.prog 22 (get (prune kp_r02_Add s.env) 1) (get (prune kp_r02_Add s.env) 5))).bind fun r11 =>
  (pv r11.2 (loadA Try.prog 5 r11.2 r11.1)).bind fun r12 =>
  (convA Try.prog r12.2 5 25 r12.1).bind fun r13 =>
  (pv r13.2 (binA Try.prog .xor 25 (get (prune kp_r02_Add s.env) 0) r13.1)).bind fun r14 =>
  (callA E md0 r14.2 24 [r14.1, (.v (Go.Value.int Go.IntKind.i64 8))]).bind fun r15 =>
  (pv r15.2 (binA Try.prog .add 3 (get (prune kp_r02_Add (prune kp_r02_Add s.env)) 5) (.v (Go.Value.int Go.IntKind.i64 1)))).bind fun r16 =>
  some (.normal, ⟨((5, r16.1) :: (0, r15.1) :: (9, r10.1) :: (prune kp_r02_Add (prune kp_r02_Add (prune kp_r02_Add s.env)))), r16.2⟩)) (some (.exit 0, ⟨((9, r10.1) :: (prune kp_r02_Add s.env)), r10.2⟩))
noncomputable def B_r02_Add_0 (E : FnA) (_n _n0 : Nat) (x5 x4 x0 x1 : AV) (y : Bx) : Option (Ex × S) :=
  (pv y (lenA Try.prog 22 x1)).bind fun r1 =>
  (pv r1.2 (binA Try.prog .lss 3 x5 r1.1)).bind fun r2 =>
  condA r2.1 ((pv r2.2 (indexAddrA Try.prog 22 x1 x5)).bind fun r3 =>
  (pv r3.2 (loadA Try.prog 5 r3.2 r3.1)).bind fun r4 =>
  (convA Try.prog r4.2 5 25 r4.1).bind fun r5 =>
  (pv r5.2 (binA Try.prog .xor 25 x0 r5.1)).bind fun r6 =>
  (callA E md0 r6.2 24 [r6.1, (.v (Go.Value.int Go.IntKind.i64 8))]).bind fun r7 =>
  (pv r7.2 (binA Try.prog .add 3 x5 (.v (Go.Value.int Go.IntKind.i64 1)))).bind fun r8 =>
  some (.normal, ⟨[(5, r8.1), (0, r7.1), (9, r2.1), (5, x5), (4, x4), (0, x0), (1, x1)], r8.2⟩)) (some (.exit 0, ⟨[(9, r2.1), (5, x5), (4, x4), (0, x0), (1, x1)], r2.2⟩))
theorem L_r02_Add_0_lit {E : FnA} {n n0 : Nat} {x5 x4 x0 x1 : AV} {y : Bx} {Q : Ex → S → Prop} (h : Ends (B_r02_Add_0 E n n0 x5 x4 x0 x1 y) Q) : Ends (L_r02_Add_0 E n n0 ⟨[(5, x5), (4, x4), (0, x0), (1, x1)], y⟩) Q := by
  rw [show L_r02_Add_0 E n n0 ⟨[(5, x5), (4, x4), (0, x0), (1, x1)], y⟩ = B_r02_Add_0 E n n0 x5 x4 x0 x1 y by kernel_rfl]
  exact h
noncomputable def K_r02_Add_0 (_E : FnA) (_n _n0 : Nat) (t : S) : Option (Ex × S) :=
  some (.ret, ⟨((4, (get t.env 0)) :: (prune kp_r02_Add t.env)), t.bx⟩)
noncomputable def X_r02_Add_0 (_E : FnA) (_n _n0 : Nat) (i : Nat) (t : S) : Option (Ex × S) :=
  if i = 0 then some (.ret, ⟨((4, (get t.env 0)) :: (prune kp_r02_Add t.env)), t.bx⟩) else some (.exit i, ⟨t.env, t.bx⟩)
noncomputable def X_r02_Add_0_0 (_E : FnA) (_n _n0 : Nat) (x9 x5 x4 x0 x1 : AV) (y : Bx) : Option (Ex × S) :=
  some (.ret, ⟨[(4, x0), (9, x9), (5, x5), (4, x4), (0, x0), (1, x1)], y⟩)
theorem X_r02_Add_0_0_lit {E : FnA} {n n0 : Nat} {x9 x5 x4 x0 x1 : AV} {y : Bx} {Q : Ex → S → Prop} (h : Ends (X_r02_Add_0_0 E n n0 x9 x5 x4 x0 x1 y) Q) : Ends (X_r02_Add_0 E n n0 0 ⟨[(9, x9), (5, x5), (4, x4), (0, x0), (1, x1)], y⟩) Q := by
  rw [show X_r02_Add_0 E n n0 0 ⟨[(9, x9), (5, x5), (4, x4), (0, x0), (1, x1)], y⟩ = X_r02_Add_0_0 E n n0 x9 x5 x4 x0 x1 y by kernel_rfl]
  exact h
noncomputable def F_r02_Add (E : FnA) (n n0 : Nat) (a0 a1 : AV) (bx : Bx) : Option (Ex × S) :=
  exitA (iter ⟨[(5, (.v (Go.Value.int Go.IntKind.i64 0))), (4, (.v (Go.Value.int Go.IntKind.u32 0))), (0, a0), (1, a1)], bx⟩ (L_r02_Add_0 E n n0) n ⟨[(5, (.v (Go.Value.int Go.IntKind.i64 0))), (4, (.v (Go.Value.int Go.IntKind.u32 0))), (0, a0), (1, a1)], bx⟩) (K_r02_Add_0 E n n0) (X_r02_Add_0 E n n0)
theorem c_r02_Add_eq : Try.f18.body = some c_r02_Add := by kernel_rfl
theorem d_r02_Add : drawsOk Try.prog md0 c_r02_Add = true := by kernel_rfl
theorem F_r02_Add_eq (E : FnA) (n n0 : Nat) (a0 a1 : AV) (bx : Bx) : evK Try.prog md0 E 21 kp_r02_Add n n0 c_r02_Add ⟨[(0, a0), (1, a1)], bx⟩ (fun s => some (.normal, s)) (fun i s => some (.exit i, s)) = F_r02_Add E n n0 a0 a1 bx := by kernel_rfl

theorem E_r02_Add (n : Nat) (a0 a1 : AV) (bx : Bx) : evFn cx0 ext0 (n + 1) 18 [a0, a1] bx = fin Try.prog [.tmp 4] (F_r02_Add (evFn cx0 ext0 n) n bx.length a0 a1 bx) := by
  rw [evFn_eq2 (cx := cx0) (c := c_r02_Add) rfl Try.func18 c_r02_Add_eq (of_decide_eq_true (by kernel_rfl)) d_r02_Add (of_decide_eq_true (by kernel_rfl))]
  exact congrArg (fin Try.prog [.tmp 4]) (F_r02_Add_eq (evFn cx0 ext0 n) n bx.length a0 a1 bx)

/-- scupper/crc.Shift -/
def kp_crc_Shift : Option (List Nat) := some [0, 1, 4, 5, 11]
noncomputable def c_crc_Shift : Code := Try.f19.body.getD .skip
noncomputable def F_crc_Shift (E : FnA) (_n _n0 : Nat) (a0 a1 : AV) (bx : Bx) : Option (Ex × S) :=
  (pv bx (binA Try.prog .lss 3 a1 (.v (Go.Value.int Go.IntKind.i64 0)))).bind fun r1 =>
  (gsel false r1.2 (some (a1, r1.2)) r1.1).bind fun r2 =>
  (gsel false r2.2 (pv r2.2 (binA Try.prog .gtr 3 r2.1 (.v (Go.Value.int Go.IntKind.i64 65536)))) r1.1).bind fun r3 =>
  (pv r3.2 (pickA r1.1 (.v (Go.Value.bool true)) r3.1)).bind fun r4 =>
  condA r4.1 (some (.ret, ⟨[(5, (.v (Go.Value.int Go.IntKind.i64 2))), (4, (.v (Go.Value.int Go.IntKind.u32 0))), (11, r4.1), (5, (.v (Go.Value.int Go.IntKind.i64 0))), (4, (.v (Go.Value.int Go.IntKind.u32 0))), (0, a0), (1, a1)], r4.2⟩)) ((pv r4.2 (binA Try.prog .mul 3 (.v (Go.Value.int Go.IntKind.i64 8)) a1)).bind fun r5 =>
  (callA E md0 r5.2 23 [a0, r5.1]).bind fun r6 =>
  some (.ret, ⟨[(5, (.v (Go.Value.int Go.IntKind.i64 0))), (4, r6.1), (11, r4.1), (5, (.v (Go.Value.int Go.IntKind.i64 0))), (4, (.v (Go.Value.int Go.IntKind.u32 0))), (0, a0), (1, a1)], r6.2⟩))
theorem c_crc_Shift_eq : Try.f19.body = some c_crc_Shift := by kernel_rfl
theorem d_crc_Shift : drawsOk Try.prog md0 c_crc_Shift = true := by kernel_rfl
theorem F_crc_Shift_eq (E : FnA) (n n0 : Nat) (a0 a1 : AV) (bx : Bx) : evK Try.prog md0 E 16 kp_crc_Shift n n0 c_crc_Shift ⟨[(0, a0), (1, a1)], bx⟩ (fun s => some (.normal, s)) (fun i s => some (.exit i, s)) = F_crc_Shift E n n0 a0 a1 bx := by kernel_rfl

theorem E_crc_Shift (n : Nat) (a0 a1 : AV) (bx : Bx) : evFn cx0 ext0 (n + 1) 19 [a0, a1] bx = fin Try.prog [.tmp 4, .tmp 5] (F_crc_Shift (evFn cx0 ext0 n) n bx.length a0 a1 bx) := by
  rw [evFn_eq2 (cx := cx0) (c := c_crc_Shift) rfl Try.func19 c_crc_Shift_eq (of_decide_eq_true (by kernel_rfl)) d_crc_Shift (of_decide_eq_true (by kernel_rfl))]
  exact congrArg (fin Try.prog [.tmp 4, .tmp 5]) (F_crc_Shift_eq (evFn cx0 ext0 n) n bx.length a0 a1 bx)

/-- scupper/scupperref02.Shift -/
def kp_r02_Shift : Option (List Nat) := some [0, 1, 4, 5, 11]
noncomputable def c_r02_Shift : Code := Try.f20.body.getD .skip
noncomputable def F_r02_Shift (E : FnA) (_n _n0 : Nat) (a0 a1 : AV) (bx : Bx) : Option (Ex × S) :=
  (pv bx (binA Try.prog .lss 3 a1 (.v (Go.Value.int Go.IntKind.i64 0)))).bind fun r1 =>
  (gsel false r1.2 (some (a1, r1.2)) r1.1).bind fun r2 =>
  (gsel false r2.2 (pv r2.2 (binA Try.prog .gtr 3 r2.1 (.v (Go.Value.int Go.IntKind.i64 65536)))) r1.1).bind fun r3 =>
  (pv r3.2 (pickA r1.1 (.v (Go.Value.bool true)) r3.1)).bind fun r4 =>
  condA r4.1 (some (.ret, ⟨[(5, (.v (Go.Value.int Go.IntKind.i64 2))), (4, (.v (Go.Value.int Go.IntKind.u32 0))), (11, r4.1), (5, (.v (Go.Value.int Go.IntKind.i64 0))), (4, (.v (Go.Value.int Go.IntKind.u32 0))), (0, a0), (1, a1)], r4.2⟩)) ((pv r4.2 (binA Try.prog .mul 3 (.v (Go.Value.int Go.IntKind.i64 8)) a1)).bind fun r5 =>
  (callA E md0 r5.2 24 [a0, r5.1]).bind fun r6 =>
  some (.ret, ⟨[(5, (.v (Go.Value.int Go.IntKind.i64 0))), (4, r6.1), (11, r4.1), (5, (.v (Go.Value.int Go.IntKind.i64 0))), (4, (.v (Go.Value.int Go.IntKind.u32 0))), (0, a0), (1, a1)], r6.2⟩))
theorem c_r02_Shift_eq : Try.f20.body = some c_r02_Shift := by kernel_rfl
theorem d_r02_Shift : drawsOk Try.prog md0 c_r02_Shift = true := by kernel_rfl
theorem F_r02_Shift_eq (E : FnA) (n n0 : Nat) (a0 a1 : AV) (bx : Bx) : evK Try.prog md0 E 16 kp_r02_Shift n n0 c_r02_Shift ⟨[(0, a0), (1, a1)], bx⟩ (fun s => some (.normal, s)) (fun i s => some (.exit i, s)) = F_r02_Shift E n n0 a0 a1 bx := by kernel_rfl

theorem E_r02_Shift (n : Nat) (a0 a1 : AV) (bx : Bx) : evFn cx0 ext0 (n + 1) 20 [a0, a1] bx = fin Try.prog [.tmp 4, .tmp 5] (F_r02_Shift (evFn cx0 ext0 n) n bx.length a0 a1 bx) := by
  rw [evFn_eq2 (cx := cx0) (c := c_r02_Shift) rfl Try.func20 c_r02_Shift_eq (of_decide_eq_true (by kernel_rfl)) d_r02_Shift (of_decide_eq_true (by kernel_rfl))]
  exact congrArg (fin Try.prog [.tmp 4, .tmp 5]) (F_r02_Shift_eq (evFn cx0 ext0 n) n bx.length a0 a1 bx)

/-- scupper/crc.Join -/
def kp_crc_Join : Option (List Nat) := some [0, 1, 2, 6, 7, 8, 9, 17]
noncomputable def c_crc_Join : Code := Try.f21.body.getD .skip
noncomputable def F_crc_Join (E : FnA) (_n _n0 : Nat) (a0 a1 a2 : AV) (bx : Bx) : Option (Ex × S) :=
  (callA E md0 bx 19 [a0, a2]).bind fun r1 =>
  (pv r1.2 (tupA r1.1 0)).bind fun r2 =>
  (pv r2.2 (tupA r1.1 1)).bind fun r3 =>
  (pv r3.2 (binA Try.prog .neq 40 r3.1 (.v (Go.Value.int Go.IntKind.i64 0)))).bind fun r4 =>
  condA r4.1 (some (.ret, ⟨[(7, r3.1), (6, (.v (Go.Value.int Go.IntKind.u32 0))), (17, r4.1), (9, r3.1), (8, r2.1), (7, (.v (Go.Value.int Go.IntKind.i64 0))), (6, (.v (Go.Value.int Go.IntKind.u32 0))), (0, a0), (1, a1), (2, a2)], r4.2⟩)) ((pv r4.2 (binA Try.prog .xor 25 r2.1 a1)).bind fun r5 =>
  some (.ret, ⟨[(7, r3.1), (6, r5.1), (17, r4.1), (9, r3.1), (8, r2.1), (7, (.v (Go.Value.int Go.IntKind.i64 0))), (6, (.v (Go.Value.int Go.IntKind.u32 0))), (0, a0), (1, a1), (2, a2)], r5.2⟩))
theorem c_crc_Join_eq : Try.f21.body = some c_crc_Join := by kernel_rfl
theorem d_crc_Join : drawsOk Try.prog md0 c_crc_Join = true := by kernel_rfl
theorem F_crc_Join_eq (E : FnA) (n n0 : Nat) (a0 a1 a2 : AV) (bx : Bx) : evK Try.prog md0 E 23 kp_crc_Join n n0 c_crc_Join ⟨[(0, a0), (1, a1), (2, a2)], bx⟩ (fun s => some (.normal, s)) (fun i s => some (.exit i, s)) = F_crc_Join E n n0 a0 a1 a2 bx := by kernel_rfl

theorem E_crc_Join (n : Nat) (a0 a1 a2 : AV) (bx : Bx) : evFn cx0 ext0 (n + 1) 21 [a0, a1, a2] bx = fin Try.prog [.tmp 6, .tmp 7] (F_crc_Join (evFn cx0 ext0 n) n bx.length a0 a1 a2 bx) := by
  rw [evFn_eq2 (cx := cx0) (c := c_crc_Join) rfl Try.func21 c_crc_Join_eq (of_decide_eq_true (by kernel_rfl)) d_crc_Join (of_decide_eq_true (by kernel_rfl))]
  exact congrArg (fin Try.prog [.tmp 6, .tmp 7]) (F_crc_Join_eq (evFn cx0 ext0 n) n bx.length a0 a1 a2 bx)

/-- scupper/scupperref02.Join -/
def kp_r02_Join : Option (List Nat) := some [0, 1, 2, 6, 7, 8, 9, 17]
noncomputable def c_r02_Join : Code := Try.f22.body.getD .skip
noncomputable def F_r02_Join (E : FnA) (_n _n0 : Nat) (a0 a1 a2 : AV) (bx : Bx) : Option (Ex × S) :=
  (callA E md0 bx 20 [a0, a2]).bind fun r1 =>
  (pv r1.2 (tupA r1.1 0)).bind fun r2 =>
  (pv r2.2 (tupA r1.1 1)).bind fun r3 =>
  (pv r3.2 (binA Try.prog .neq 40 r3.1 (.v (Go.Value.int Go.IntKind.i64 0)))).bind fun r4 =>
  condA r4.1 (some (.ret, ⟨[(7, r3.1), (6, (.v (Go.Value.int Go.IntKind.u32 0))), (17, r4.1), (9, r3.1), (8, r2.1), (7, (.v (Go.Value.int Go.IntKind.i64 0))), (6, (.v (Go.Value.int Go.IntKind.u32 0))), (0, a0), (1, a1), (2, a2)], r4.2⟩)) ((pv r4.2 (binA Try.prog .xor 25 r2.1 a1)).bind fun r5 =>
  some (.ret, ⟨[(7, (.v (Go.Value.int Go.IntKind.i64 0))), (6, r5.1), (17, r4.1), (9, r3.1), (8, r2.1), (7, (.v (Go.Value.int Go.IntKind.i64 0))), (6, (.v (Go.Value.int Go.IntKind.u32 0))), (0, a0), (1, a1), (2, a2)], r5.2⟩))
theorem c_r02_Join_eq : Try.f22.body = some c_r02_Join := by kernel_rfl
theorem d_r02_Join : drawsOk Try.prog md0 c_r02_Join = true := by kernel_rfl
theorem F_r02_Join_eq (E : FnA) (n n0 : Nat) (a0 a1 a2 : AV) (bx : Bx) : evK Try.prog md0 E 22 kp_r02_Join n n0 c_r02_Join ⟨[(0, a0), (1, a1), (2, a2)], bx⟩ (fun s => some (.normal, s)) (fun i s => some (.exit i, s)) = F_r02_Join E n n0 a0 a1 a2 bx := by kernel_rfl

theorem E_r02_Join (n : Nat) (a0 a1 a2 : AV) (bx : Bx) : evFn cx0 ext0 (n + 1) 22 [a0, a1, a2] bx = fin Try.prog [.tmp 6, .tmp 7] (F_r02_Join (evFn cx0 ext0 n) n bx.length a0 a1 a2 bx) := by
  rw [evFn_eq2 (cx := cx0) (c := c_r02_Join) rfl Try.func22 c_r02_Join_eq (of_decide_eq_true (by kernel_rfl)) d_r02_Join (of_decide_eq_true (by kernel_rfl))]
  exact congrArg (fin Try.prog [.tmp 6, .tmp 7]) (F_r02_Join_eq (evFn cx0 ext0 n) n bx.length a0 a1 a2 bx)

/-- scupper/crc.stepped -/
def kp_crc_stepped : Option (List Nat) := some [0, 1, 4, 5, 6, 7, 8]
noncomputable def c_crc_stepped : Code := Try.f23.body.getD .skip
noncomputable def L_crc_stepped_0 (_E : FnA) (_n _n0 : Nat) (s : S) : Option (Ex × S) :=
  (pv s.bx (binA Try.prog .lss 3 (get s.env 7) (get s.env 6))).bind fun r8 =>
  condA r8.1 ((pv r8.2 (binA Try.prog .and 25 (get (prune kp_crc_stepped s.env) 0) (.v (Go.Value.int Go.IntKind.u32 1)))).bind fun r9 =>
  (pv r9.2 (unA .neg r9.1)).bind fun r10 =>
  (pv r10.2 (binA Try.prog .shr 25 (get (prune kp_crc_stepped (prune kp_crc_stepped s.env)) 0) (.v (Go.Value.int Go.IntKind.u64 1)))).bind fun r11 =>
  (pv r11.2 (binA Try.prog .and 25 (.v (Go.Value.int Go.IntKind.u32 2197175160)) r10.1)).bind fun r12 =>
  (pv r12.2 (binA Try.prog .xor 25 r11.1 r12.1)).bind fun r13 =>
  (pv r13.2 (binA Try.prog .add 3 (get (prune kp_crc_stepped (prune kp_crc_stepped (prune kp_crc_stepped s.env))) 7) (.v (Go.Value.int Go.IntKind.i64 1)))).bind fun r14 =>
  some (.normal, ⟨((7, r14.1) :: (0, r13.1) :: (5, r10.1) :: (8, r8.1) :: (prune kp_crc_stepped (prune kp_crc_stepped (prune kp_crc_stepped (prune kp_crc_stepped s.env))))), r14.2⟩)) (some (.exit 0, ⟨((8, r8.1) :: (prune kp_crc_stepped s.env)), r8.2⟩))
noncomputable def B_crc_stepped_0 (_E : FnA) (_n _n0 : Nat) (x7 x6 x4 x0 x1 : AV) (y : Bx) : Option (Ex × S) :=
  (pv y (binA Try.prog .lss 3 x7 x6)).bind fun r1 =>
  condA r1.1 ((pv r1.2 (binA Try.prog .and 25 x0 (.v (Go.Value.int Go.IntKind.u32 1)))).bind fun r2 =>
  (pv r2.2 (unA .neg r2.1)).bind fun r3 =>
  (pv r3.2 (binA Try.prog .shr 25 x0 (.v (Go.Value.int Go.IntKind.u64 1)))).bind fun r4 =>
  (pv r4.2 (binA Try.prog .and 25 (.v (Go.Value.int Go.IntKind.u32 2197175160)) r3.1)).bind fun r5 =>
  (pv r5.2 (binA Try.prog .xor 25 r4.1 r5.1)).bind fun r6 =>
  (pv r6.2 (binA Try.prog .add 3 x7 (.v (Go.Value.int Go.IntKind.i64 1)))).bind fun r7 =>
  some (.normal, ⟨[(7, r7.1), (0, r6.1), (5, r3.1), (8, r1.1), (7, x7), (6, x6), (4, x4), (0, x0), (1, x1)], r7.2⟩)) (some (.exit 0, ⟨[(8, r1.1), (7, x7), (6, x6), (4, x4), (0, x0), (1, x1)], r1.2⟩))
theorem L_crc_stepped_0_lit {E : FnA} {n n0 : Nat} {x7 x6 x4 x0 x1 : AV} {y : Bx} {Q : Ex → S → Prop} (h : Ends (B_crc_stepped_0 E n n0 x7 x6 x4 x0 x1 y) Q) : Ends (L_crc_stepped_0 E n n0 ⟨[(7, x7), (6, x6), (4, x4), (0, x0), (1, x1)], y⟩) Q := by
  rw [show L_crc_stepped_0 E n n0 ⟨[(7, x7), (6, x6), (4, x4), (0, x0), (1, x1)], y⟩ = B_crc_stepped_0 E n n0 x7 x6 x4 x0 x1 y by kernel_rfl]
  exact h
noncomputable def K_crc_stepped_0 (_E : FnA) (_n _n0 : Nat) (t : S) : Option (Ex × S) :=
  some (.ret, ⟨((4, (get t.env 0)) :: (prune kp_crc_stepped t.env)), t.bx⟩)
noncomputable def X_crc_stepped_0 (_E : FnA) (_n _n0 : Nat) (i : Nat) (t : S) : Option (Ex × S) :=
  if i = 0 then some (.ret, ⟨((4, (get t.env 0)) :: (prune kp_crc_stepped t.env)), t.bx⟩) else some (.exit i, ⟨t.env, t.bx⟩)
noncomputable def X_crc_stepped_0_0 (_E : FnA) (_n _n0 : Nat) (x8 x7 x6 x4 x0 x1 : AV) (y : Bx) : Option (Ex × S) :=
  some (.ret, ⟨[(4, x0), (8, x8), (7, x7), (6, x6), (4, x4), (0, x0), (1, x1)], y⟩)
theorem X_crc_stepped_0_0_lit {E : FnA} {n n0 : Nat} {x8 x7 x6 x4 x0 x1 : AV} {y : Bx} {Q : Ex → S → Prop} (h : Ends (X_crc_stepped_0_0 E n n0 x8 x7 x6 x4 x0 x1 y) Q) : Ends (X_crc_stepped_0 E n n0 0 ⟨[(8, x8), (7, x7), (6, x6), (4, x4), (0, x0), (1, x1)], y⟩) Q := by
  rw [show X_crc_stepped_0 E n n0 0 ⟨[(8, x8), (7, x7), (6, x6), (4, x4), (0, x0), (1, x1)], y⟩ = X_crc_stepped_0_0 E n n0 x8 x7 x6 x4 x0 x1 y by kernel_rfl]
  exact h
noncomputable def F_crc_stepped (E : FnA) (n n0 : Nat) (a0 a1 : AV) (bx : Bx) : Option (Ex × S) :=
  exitA (iter ⟨[(7, (.v (Go.Value.int Go.IntKind.i64 0))), (6, a1), (4, (.v (Go.Value.int Go.IntKind.u32 0))), (0, a0), (1, a1)], bx⟩ (L_crc_stepped_0 E n n0) n ⟨[(7, (.v (Go.Value.int Go.IntKind.i64 0))), (6, a1), (4, (.v (Go.Value.int Go.IntKind.u32 0))), (0, a0), (1, a1)], bx⟩) (K_crc_stepped_0 E n n0) (X_crc_stepped_0 E n n0)
theorem c_crc_stepped_eq : Try.f23.body = some c_crc_stepped := by kernel_rfl
theorem d_crc_stepped : drawsOk Try.prog md0 c_crc_stepped = true := by kernel_rfl
theorem F_crc_stepped_eq (E : FnA) (n n0 : Nat) (a0 a1 : AV) (bx : Bx) : evK Try.prog md0 E 19 kp_crc_stepped n n0 c_crc_stepped ⟨[(0, a0), (1, a1)], bx⟩ (fun s => some (.normal, s)) (fun i s => some (.exit i, s)) = F_crc_stepped E n n0 a0 a1 bx := by kernel_rfl

theorem E_crc_stepped (n : Nat) (a0 a1 : AV) (bx : Bx) : evFn cx0 ext0 (n + 1) 23 [a0, a1] bx = fin Try.prog [.tmp 4] (F_crc_stepped (evFn cx0 ext0 n) n bx.length a0 a1 bx) := by
  rw [evFn_eq2 (cx := cx0) (c := c_crc_stepped) rfl Try.func23 c_crc_stepped_eq (of_decide_eq_true (by kernel_rfl)) d_crc_stepped (of_decide_eq_true (by kernel_rfl))]
  exact congrArg (fin Try.prog [.tmp 4]) (F_crc_stepped_eq (evFn cx0 ext0 n) n bx.length a0 a1 bx)

/-- scupper/scupperref02.step -/
def kp_r02_step : Option (List Nat) := some [0, 1, 4, 5, 6, 9, 17]
noncomputable def c_r02_step : Code := Try.f24.body.getD .skip
noncomputable def L_r02_step_0 (_E : FnA) (_n _n0 : Nat) (s : S) : Option (Ex × S) :=
  (pv s.bx (binA Try.prog .lss 3 (get s.env 5) (get s.env 1))).bind fun r8 =>
  condA r8.1 ((pv r8.2 (binA Try.prog .rem 25 (get (prune kp_r02_step s.env) 0) (.v (Go.Value.int Go.IntKind.u32 2)))).bind fun r9 =>
  (pv r9.2 (binA Try.prog .quo 25 (get (prune kp_r02_step (prune kp_r02_step s.env)) 0) (.v (Go.Value.int Go.IntKind.u32 2)))).bind fun r10 =>
  (pv r10.2 (binA Try.prog .eql 25 r9.1 (.v (Go.Value.int Go.IntKind.u32 1)))).bind fun r11 =>
  condA r11.1 ((pv r11.2 (binA Try.prog .xor 25 r10.1 (.v (Go.Value.int Go.IntKind.u32 2197175160)))).bind fun r12 =>
  (pv r12.2 (binA Try.prog .add 3 (get (prune kp_r02_step (prune kp_r02_step (prune kp_r02_step (prune kp_r02_step (prune kp_r02_step s.env))))) 5) (.v (Go.Value.int Go.IntKind.i64 1)))).bind fun r13 =>
  some (.normal, ⟨((5, r13.1) :: (0, r12.1) :: (17, r11.1) :: (0, r10.1) :: (6, r9.1) :: (9, r8.1) :: (prune kp_r02_step (prune kp_r02_step (prune kp_r02_step (prune kp_r02_step (prune kp_r02_step (prune kp_r02_step s.env))))))), r13.2⟩)) ((pv r11.2 (binA Try.prog .add 3 (get (prune kp_r02_step (prune kp_r02_step (prune kp_r02_step (prune kp_r02_step s.env)))) 5) (.v (Go.Value.int Go.IntKind.i64 1)))).bind fun r14 =>
  some (.normal, ⟨((5, r14.1) :: (17, r11.1) :: (0, r10.1) :: (6, r9.1) :: (9, r8.1) :: (prune kp_r02_step (prune kp_r02_step (prune kp_r02_step (prune kp_r02_step (prune kp_r02_step s.env)))))), r14.2⟩))) (some (.exit 0, ⟨((9, r8.1) :: (prune kp_r02_step s.env)), r8.2⟩))
noncomputable def B_r02_step_0 (_E : FnA) (_n _n0 : Nat) (x5 x4 x0 x1 : AV) (y : Bx) : Option (Ex × S) :=
  (pv y (binA Try.prog .lss 3 x5 x1)).bind fun r1 =>
  condA r1.1 ((pv r1.2 (binA Try.prog .rem 25 x0 (.v (Go.Value.int Go.IntKind.u32 2)))).bind fun r2 =>
  (pv r2.2 (binA Try.prog .quo 25 x0 (.v (Go.Value.int Go.IntKind.u32 2)))).bind fun r3 =>
  (pv r3.2 (binA Try.prog .eql 25 r2.1 (.v (Go.Value.int Go.IntKind.u32 1)))).bind fun r4 =>
  condA r4.1 ((pv r4.2 (binA Try.prog .xor 25 r3.1 (.v (Go.Value.int Go.IntKind.u32 2197175160)))).bind fun r5 =>
  (pv r5.2 (binA Try.prog .add 3 x5 (.v (Go.Value.int Go.IntKind.i64 1)))).bind fun r6 =>
  some (.normal, ⟨[(5, r6.1), (0, r5.1), (17, r4.1), (0, r3.1), (6, r2.1), (9, r1.1), (5, x5), (4, x4), (0, x0), (1, x1)], r6.2⟩)) ((pv r4.2 (binA Try.prog .add 3 x5 (.v (Go.Value.int Go.IntKind.i64 1)))).bind fun r7 =>
  some (.normal, ⟨[(5, r7.1), (17, r4.1), (0, r3.1), (6, r2.1), (9, r1.1), (5, x5), (4, x4), (0, x0), (1, x1)], r7.2⟩))) (some (.exit 0, ⟨[(9, r1.1), (5, x5), (4, x4), (0, x0), (1, x1)], r1.2⟩))
theorem L_r02_step_0_lit {E : FnA} {n n0 : Nat} {x5 x4 x0 x1 : AV} {y : Bx} {Q : Ex → S → Prop} (h : Ends (B_r02_step_0 E n n0 x5 x4 x0 x1 y) Q) : Ends (L_r02_step_0 E n n0 ⟨[(5, x5), (4, x4), (0, x0), (1, x1)], y⟩) Q := by
  rw [show L_r02_step_0 E n n0 ⟨[(5, x5), (4, x4), (0, x0), (1, x1)], y⟩ = B_r02_step_0 E n n0 x5 x4 x0 x1 y by kernel_rfl]
  exact h
noncomputable def K_r02_step_0 (_E : FnA) (_n _n0 : Nat) (t : S) : Option (Ex × S) :=
  some (.ret, ⟨((4, (get t.env 0)) :: (prune kp_r02_step t.env)), t.bx⟩)
noncomputable def X_r02_step_0 (_E : FnA) (_n _n0 : Nat) (i : Nat) (t : S) : Option (Ex × S) :=
  if i = 0 then some (.ret, ⟨((4, (get t.env 0)) :: (prune kp_r02_step t.env)), t.bx⟩) else some (.exit i, ⟨t.env, t.bx⟩)
noncomputable def X_r02_step_0_0 (_E : FnA) (_n _n0 : Nat) (x9 x5 x4 x0 x1 : AV) (y : Bx) : Option (Ex × S) :=
  some (.ret, ⟨[(4, x0), (9, x9), (5, x5), (4, x4), (0, x0), (1, x1)], y⟩)
theorem X_r02_step_0_0_lit {E : FnA} {n n0 : Nat} {x9 x5 x4 x0 x1 : AV} {y : Bx} {Q : Ex → S → Prop} (h : Ends (X_r02_step_0_0 E n n0 x9 x5 x4 x0 x1 y) Q) : Ends (X_r02_step_0 E n n0 0 ⟨[(9, x9), (5, x5), (4, x4), (0, x0), (1, x1)], y⟩) Q := by
  rw [show X_r02_step_0 E n n0 0 ⟨[(9, x9), (5, x5), (4, x4), (0, x0), (1, x1)], y⟩ = X_r02_step_0_0 E n n0 x9 x5 x4 x0 x1 y by kernel_rfl]
  exact h
noncomputable def F_r02_step (E : FnA) (n n0 : Nat) (a0 a1 : AV) (bx : Bx) : Option (Ex × S) :=
  exitA (iter ⟨[(5, (.v (Go.Value.int Go.IntKind.i64 0))), (4, (.v (Go.Value.int Go.IntKind.u32 0))), (0, a0), (1, a1)], bx⟩ (L_r02_step_0 E n n0) n ⟨[(5, (.v (Go.Value.int Go.IntKind.i64 0))), (4, (.v (Go.Value.int Go.IntKind.u32 0))), (0, a0), (1, a1)], bx⟩) (K_r02_step_0 E n n0) (X_r02_step_0 E n n0)
theorem c_r02_step_eq : Try.f24.body = some c_r02_step := by kernel_rfl
theorem d_r02_step : drawsOk Try.prog md0 c_r02_step = true := by kernel_rfl
theorem F_r02_step_eq (E : FnA) (n n0 : Nat) (a0 a1 : AV) (bx : Bx) : evK Try.prog md0 E 21 kp_r02_step n n0 c_r02_step ⟨[(0, a0), (1, a1)], bx⟩ (fun s => some (.normal, s)) (fun i s => some (.exit i, s)) = F_r02_step E n n0 a0 a1 bx := by kernel_rfl

theorem E_r02_step (n : Nat) (a0 a1 : AV) (bx : Bx) : evFn cx0 ext0 (n + 1) 24 [a0, a1] bx = fin Try.prog [.tmp 4] (F_r02_step (evFn cx0 ext0 n) n bx.length a0 a1 bx) := by
  rw [evFn_eq2 (cx := cx0) (c := c_r02_step) rfl Try.func24 c_r02_step_eq (of_decide_eq_true (by kernel_rfl)) d_r02_step (of_decide_eq_true (by kernel_rfl))]
  exact congrArg (fin Try.prog [.tmp 4]) (F_r02_step_eq (evFn cx0 ext0 n) n bx.length a0 a1 bx)

end Go.Sy
