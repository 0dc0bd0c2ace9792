/-
  What the functions under this seat's laws read as, in the reader's words; no conditions.
-/
import Derived.Test.YtmegbgmgpogfoaaSyStep
import Derived.Test.YtmegbgmgpogfoaaProg
import Derived.KernelRfl
import Derived.Test.YtmegbgmgpogfoaaPfChkS
namespace Go.Sy
open Go.Proofs
def kpT : FuncId → Option (List Nat)
  | 3 => some [0, 1, 2, 3, 4, 5, 6]
  | 4 => some [0, 2]
  | 5 => some [0, 1, 2, 3, 5, 6, 7, 8, 9, 10, 11, 12, 13, 14, 16, 17, 19, 20, 23, 40, 58, 122]
  | 6 => some [0, 1, 2, 4, 5, 6, 7, 16, 20, 48]
  | 7 => some [0, 1, 2, 3, 5, 6, 7, 8, 9, 10, 11, 12, 13, 14, 15, 16, 17, 18, 19, 20, 21, 22, 107]
  | 8 => some [0, 1, 2, 3, 4, 5, 6, 14, 20]
  | 9 => some [0, 1, 2, 3, 4, 5, 13, 19, 39]
  | 10 => some [0, 1, 4]
  | 12 => some [0, 2, 3, 19, 23, 41]
  | 13 => some [0, 1, 2, 3, 4]
  | 14 => some [0, 1, 4, 6]
  | 15 => some [0, 1, 2, 3, 5, 6, 7, 8, 9, 12, 20]
  | 16 => some [0, 1, 2, 4, 5, 8]
  | 17 => some [0, 1, 2, 4, 5, 6, 7, 8, 11]
  | 18 => some [0, 1, 2, 3, 4, 5, 6, 8, 9, 19]
  | 19 => some [0, 1, 2, 3, 4, 5, 6, 10, 21]
  | 20 => some [0, 1, 2, 3, 4]
  | 21 => some [0, 1, 2, 4, 5, 6, 7, 10, 27]
  | 22 => some [0, 1, 2]
  | 23 => some [0, 1, 2, 3, 5, 8, 19]
  | 24 => some [0, 1, 2, 4, 5, 6, 7, 8, 9, 10, 12, 13, 14, 20, 29, 40, 72]
  | 25 => some [0, 1, 2, 3, 5, 6, 7, 8, 9, 15, 23]
  | 26 => some [0, 1, 2, 4, 5, 11]
  | 27 => some [0, 2, 3, 6]
  | 28 => some [0, 2]
  | 29 => some [0, 2]
  | 30 => some [0, 2]
  | 31 => some [0, 1, 2, 3, 4, 6, 7, 8, 11, 39]
  | 32 => some [0, 1, 2, 4, 5, 6, 7, 9, 10, 22]
  | 33 => some [0, 1, 2, 3, 5]
  | 34 => some [0, 1, 4]
  | 35 => some [0, 1, 4, 5, 6, 7]
  | 36 => some [0, 1, 2, 3, 6, 7, 8, 11]
  | 37 => some [0, 1, 4, 5, 6, 7]
  | 38 => some [0, 1, 2, 6, 7, 8, 9, 25, 29]
  | 39 => some [0, 1, 2, 6, 7, 8, 9, 25, 26, 27, 28]
  | _ => none
def md_dirent_Find : FuncId → Md
  | 32 => .objT
  | _ => .frozen
def md_dirent_first : FuncId → Md
  | 33 => .objT
  | _ => .frozen
def md_r12_Put : FuncId → Md
  | 29 => .fresh
  | 1000000 => .objK
  | _ => .frozen
def mdT : FuncId → FuncId → Md
  | 20 => md_dirent_Find
  | 32 => md_dirent_first
  | 9 => md_r12_Put
  | _ => md0
noncomputable def cx0 : Cx := { P := Try.prog, md := mdT, kp := kpT }
noncomputable def ext0 : FnA := extC
theorem ext0_ok (f : FuncId) (args : List AV) (bx : Bx) (r : AV) (bx' : Bx) (h : ext0 f args bx = some (r, bx')) : Sound cx0.P f args bx r bx' := extC_ok f args bx r bx' h
/-- scupper/scupperlaw12.DirentPuts -/
def kp_l12_DirentPuts : Option (List Nat) := some [0, 1, 2, 3, 4, 5, 6]
noncomputable def c_l12_DirentPuts : Code := Try.f3.body.getD .skip
noncomputable def F_l12_DirentPuts (E : FnA) (_n _n0 : Nat) (a0 : AV) (bx : Bx) : Option (Ex × S) :=
  (boxA bx a0).bind fun r1 =>
  (pv r1.2 (fieldAddrA Try.prog 23 r1.1 1)).bind fun r2 =>
  (pv r2.2 (loadA Try.prog 9 r2.2 r2.1)).bind fun r3 =>
  (pv r3.2 (fieldAddrA Try.prog 23 r1.1 1)).bind fun r4 =>
  (pv r4.2 (loadA Try.prog 9 r4.2 r4.1)).bind fun r5 =>
  (pv r5.2 (lenA Try.prog 9 r5.1)).bind fun r6 =>
  (pv r6.2 (minL false r6.1 [(.v (Go.Value.int Go.IntKind.i64 100))])).bind fun r7 =>
  (pv r7.2 (sliceA Try.prog r7.2 9 r3.1 none (some r7.1) none)).bind fun r8 =>
  (pv r8.2 (fieldAddrA Try.prog 23 r1.1 1)).bind fun r9 =>
  (stA Try.prog 9 r9.2 r9.1 r8.1).bind fun r10 =>
  (pv r10.2 (loadA Try.prog 23 r10.2 r1.1)).bind fun r11 =>
  (callA E md0 r11.2 8 [r11.1]).bind fun r12 =>
  (pv r12.2 (tupA r12.1 0)).bind fun r13 =>
  (pv r13.2 (tupA r12.1 1)).bind fun r14 =>
  (allocA Try.prog r14.2 24).bind fun r15 =>
  (stA Try.prog 24 r15.2 r15.1 r13.1).bind fun r16 =>
  (pv r16.2 (loadA Try.prog 23 r16.2 r1.1)).bind fun r17 =>
  (callA E md0 r17.2 9 [r17.1]).bind fun r18 =>
  (pv r18.2 (tupA r18.1 0)).bind fun r19 =>
  (pv r19.2 (tupA r18.1 1)).bind fun r20 =>
  (pv r20.2 (sliceA Try.prog r20.2 24 r15.1 none none none)).bind fun r21 =>
  (callA E md0 r21.2 10 [r21.1, r19.1]).bind fun r22 =>
  (gsel true r22.2 (some (r14.1, r22.2)) r22.1).bind fun r23 =>
  (gsel true r23.2 (some (r20.1, r23.2)) r22.1).bind fun r24 =>
  (gsel true r24.2 (pv r24.2 (binA Try.prog .eql 25 r23.1 r24.1)) r22.1).bind fun r25 =>
  (pv r25.2 (pickA r22.1 r25.1 (.v (Go.Value.bool false)))).bind fun r26 =>
  (gsel true r26.2 (pv r26.2 (fieldAddrA Try.prog 23 r1.1 1)) r26.1).bind fun r27 =>
  (gsel true r27.2 (pv r27.2 (loadA Try.prog 9 r27.2 r27.1)) r26.1).bind fun r28 =>
  (gsel true r28.2 (callA E md0 r28.2 11 [r28.1]) r26.1).bind fun r29 =>
  (gsel true r29.2 (pv r29.2 (fieldAddrA Try.prog 23 r1.1 1)) r26.1).bind fun r30 =>
  (gsel true r30.2 (pv r30.2 (loadA Try.prog 9 r30.2 r30.1)) r26.1).bind fun r31 =>
  (gsel true r31.2 (callA E md0 r31.2 12 [r31.1]) r26.1).bind fun r32 =>
  (gsel true r32.2 (pv r32.2 (binA Try.prog .eql 25 r29.1 r32.1)) r26.1).bind fun r33 =>
  (pv r33.2 (pickA r26.1 r33.1 (.v (Go.Value.bool false)))).bind fun r34 =>
  (gsel true r34.2 (callA E md0 r34.2 13 []) r34.1).bind fun r35 =>
  (pv r35.2 (pickA r34.1 r35.1 (.v (Go.Value.bool false)))).bind fun r36 =>
  some (.ret, ⟨[(2, r36.1), (6, r20.1), (5, r19.1), (4, r14.1), (3, r15.1), (2, (.v (Go.Value.bool false))), (1, r1.1), (0, a0)], r36.2⟩)
theorem c_l12_DirentPuts_eq : Try.f3.body = some c_l12_DirentPuts := by kernel_rfl
theorem d_l12_DirentPuts : drawsOk Try.prog md0 c_l12_DirentPuts = true := by kernel_rfl
theorem F_l12_DirentPuts_eq (E : FnA) (n n0 : Nat) (a0 : AV) (bx : Bx) : evK Try.prog md0 E 45 kp_l12_DirentPuts n n0 c_l12_DirentPuts ⟨[(0, a0)], bx⟩ (fun s => some (.normal, s)) (fun i s => some (.exit i, s)) = F_l12_DirentPuts E n n0 a0 bx := by kernel_rfl

theorem E_l12_DirentPuts (n : Nat) (a0 : AV) (bx : Bx) : evFn cx0 ext0 (n + 1) 3 [a0] bx = fin Try.prog [.tmp 2] (F_l12_DirentPuts (evFn cx0 ext0 n) n bx.length a0 bx) := by
  rw [evFn_eq2 (cx := cx0) (c := c_l12_DirentPuts) rfl Try.func3 c_l12_DirentPuts_eq (of_decide_eq_true (by kernel_rfl)) d_l12_DirentPuts (of_decide_eq_true (by kernel_rfl))]
  exact congrArg (fin Try.prog [.tmp 2]) (F_l12_DirentPuts_eq (evFn cx0 ext0 n) n bx.length a0 bx)

/-- scupper/scupperlaw12.DirentNames -/
def kp_l12_DirentNames : Option (List Nat) := some [0, 2]
noncomputable def c_l12_DirentNames : Code := Try.f4.body.getD .skip
noncomputable def F_l12_DirentNames (E : FnA) (_n _n0 : Nat) (a0 : AV) (bx : Bx) : Option (Ex × S) :=
  (pv bx (lenA Try.prog 9 a0)).bind fun r1 =>
  (pv r1.2 (minL false r1.1 [(.v (Go.Value.int Go.IntKind.i64 100))])).bind fun r2 =>
  (pv r2.2 (sliceA Try.prog r2.2 9 a0 none (some r2.1) none)).bind fun r3 =>
  (callA E md0 r3.2 11 [r3.1]).bind fun r4 =>
  (callA E md0 r4.2 12 [r3.1]).bind fun r5 =>
  (pv r5.2 (binA Try.prog .eql 25 r4.1 r5.1)).bind fun r6 =>
  (gsel true r6.2 (callA E md0 r6.2 13 []) r6.1).bind fun r7 =>
  (pv r7.2 (pickA r6.1 r7.1 (.v (Go.Value.bool false)))).bind fun r8 =>
  some (.ret, ⟨[(2, r8.1), (0, r3.1), (2, (.v (Go.Value.bool false))), (0, a0)], r8.2⟩)
theorem c_l12_DirentNames_eq : Try.f4.body = some c_l12_DirentNames := by kernel_rfl
theorem d_l12_DirentNames : drawsOk Try.prog md0 c_l12_DirentNames = true := by kernel_rfl
theorem F_l12_DirentNames_eq (E : FnA) (n n0 : Nat) (a0 : AV) (bx : Bx) : evK Try.prog md0 E 16 kp_l12_DirentNames n n0 c_l12_DirentNames ⟨[(0, a0)], bx⟩ (fun s => some (.normal, s)) (fun i s => some (.exit i, s)) = F_l12_DirentNames E n n0 a0 bx := by kernel_rfl

theorem E_l12_DirentNames (n : Nat) (a0 : AV) (bx : Bx) : evFn cx0 ext0 (n + 1) 4 [a0] bx = fin Try.prog [.tmp 2] (F_l12_DirentNames (evFn cx0 ext0 n) n bx.length a0 bx) := by
  rw [evFn_eq2 (cx := cx0) (c := c_l12_DirentNames) rfl Try.func4 c_l12_DirentNames_eq (of_decide_eq_true (by kernel_rfl)) d_l12_DirentNames (of_decide_eq_true (by kernel_rfl))]
  exact congrArg (fin Try.prog [.tmp 2]) (F_l12_DirentNames_eq (evFn cx0 ext0 n) n bx.length a0 bx)

/-- scupper/scupperlaw12.DirentBack -/
def kp_l12_DirentBack : Option (List Nat) := some [0, 1, 2, 3, 5, 6, 7, 8, 9, 10, 11, 12, 13, 14, 16, 17, 19, 20, 23, 40, 58, 122]
noncomputable def c_l12_DirentBack : Code := Try.f5.body.getD .skip
noncomputable def L_l12_DirentBack_0 (E : FnA) (_n _n0 : Nat) (s : S) : Option (Ex × S) :=
  (pv s.bx (binA Try.prog .lss 3 (get s.env 12) (.v (Go.Value.int Go.IntKind.i64 4)))).bind fun r95 =>
  condA r95.1 ((pv r95.2 (loadA Try.prog 37 r95.2 (get (prune kp_l12_DirentBack s.env) 3))).bind fun r96 =>
  (callA E md0 r96.2 17 [r96.1, (get (prune kp_l12_DirentBack s.env) 12)]).bind fun r97 =>
  (pv r97.2 (tupA r97.1 0)).bind fun r98 =>
  (pv r98.2 (tupA r97.1 1)).bind fun r99 =>
  (pv r99.2 (tupA r97.1 2)).bind fun r100 =>
  (allocA Try.prog r100.2 23).bind fun r101 =>
  (stA Try.prog 23 r101.2 r101.1 r98.1).bind fun r102 =>
  (pv r102.2 (loadA Try.prog 37 r102.2 (get (prune kp_l12_DirentBack (prune kp_l12_DirentBack s.env)) 8))).bind fun r103 =>
  (callA E md0 r103.2 17 [r103.1, (get (prune kp_l12_DirentBack (prune kp_l12_DirentBack s.env)) 12)]).bind fun r104 =>
  (pv r104.2 (tupA r104.1 0)).bind fun r105 =>
  (pv r105.2 (tupA r104.1 1)).bind fun r106 =>
  (pv r106.2 (tupA r104.1 2)).bind fun r107 =>
  (allocA Try.prog r107.2 23).bind fun r108 =>
  (stA Try.prog 23 r108.2 r108.1 r105.1).bind fun r109 =>
  (pv r109.2 (loadA Try.prog 37 r109.2 (get (prune kp_l12_DirentBack (prune kp_l12_DirentBack (prune kp_l12_DirentBack s.env))) 10))).bind fun r110 =>
  (callA E md0 r110.2 17 [r110.1, (get (prune kp_l12_DirentBack (prune kp_l12_DirentBack (prune kp_l12_DirentBack s.env))) 12)]).bind fun r111 =>
  (pv r111.2 (tupA r111.1 0)).bind fun r112 =>
  (pv r112.2 (tupA r111.1 1)).bind fun r113 =>
  (pv r113.2 (tupA r111.1 2)).bind fun r114 =>
  (allocA Try.prog r114.2 23).bind fun r115 =>
  (stA Try.prog 23 r115.2 r115.1 r112.1).bind fun r116 =>
  (pv r116.2 (binA Try.prog .eql 3 (get (prune kp_l12_DirentBack (prune kp_l12_DirentBack (prune kp_l12_DirentBack (prune kp_l12_DirentBack s.env)))) 12) (get (prune kp_l12_DirentBack (prune kp_l12_DirentBack (prune kp_l12_DirentBack (prune kp_l12_DirentBack s.env)))) 7))).bind fun r117 =>
  (gsel true r117.2 (pv r117.2 (loadA Try.prog 23 r117.2 r108.1)) r117.1).bind fun r118 =>
  (gsel true r118.2 (pv r118.2 (loadA Try.prog 23 r118.2 (get (prune kp_l12_DirentBack (prune kp_l12_DirentBack (prune kp_l12_DirentBack (prune kp_l12_DirentBack s.env)))) 5))) r117.1).bind fun r119 =>
  (gsel true r119.2 (pv r119.2 (binA Try.prog .neq 23 r118.1 r119.1)) r117.1).bind fun r120 =>
  (gsel true r120.2 (some (r120.1, r120.2)) r117.1).bind fun r121 =>
  (gsel false r121.2 (some (r106.1, r121.2)) r121.1).bind fun r122 =>
  (gsel false r122.2 (pv r122.2 (binA Try.prog .neq 3 r122.1 (.v (Go.Value.int Go.IntKind.i64 1)))) r121.1).bind fun r123 =>
  (gsel true r123.2 (pv r123.2 (pickA r121.1 (.v (Go.Value.bool true)) r123.1)) r117.1).bind fun r124 =>
  (gsel true r124.2 (some (r124.1, r124.2)) r117.1).bind fun r125 =>
  (gsel false r125.2 (some (r113.1, r125.2)) r125.1).bind fun r126 =>
  (gsel false r126.2 (pv r126.2 (binA Try.prog .neq 3 r126.1 (.v (Go.Value.int Go.IntKind.i64 0)))) r125.1).bind fun r127 =>
  (gsel true r127.2 (pv r127.2 (pickA r125.1 (.v (Go.Value.bool true)) r127.1)) r117.1).bind fun r128 =>
  (pv r128.2 (pickA r117.1 r128.1 (.v (Go.Value.bool false)))).bind fun r129 =>
  (gsel false r129.2 (some ((get (prune kp_l12_DirentBack (prune kp_l12_DirentBack (prune kp_l12_DirentBack (prune kp_l12_DirentBack s.env)))) 12), r129.2)) r129.1).bind fun r130 =>
  (gsel false r130.2 (some ((get (prune kp_l12_DirentBack (prune kp_l12_DirentBack (prune kp_l12_DirentBack (prune kp_l12_DirentBack s.env)))) 7), r130.2)) r129.1).bind fun r131 =>
  (gsel false r131.2 (pv r131.2 (binA Try.prog .neq 3 r130.1 r131.1)) r129.1).bind fun r132 =>
  (gsel false r132.2 (some (r132.1, r132.2)) r129.1).bind fun r133 =>
  (gsel true r133.2 (pv r133.2 (loadA Try.prog 23 r133.2 r101.1)) r133.1).bind fun r134 =>
  (gsel true r134.2 (pv r134.2 (loadA Try.prog 23 r134.2 r108.1)) r133.1).bind fun r135 =>
  (gsel true r135.2 (pv r135.2 (binA Try.prog .neq 23 r134.1 r135.1)) r133.1).bind fun r136 =>
  (gsel true r136.2 (some (r136.1, r136.2)) r133.1).bind fun r137 =>
  (gsel false r137.2 (some (r99.1, r137.2)) r137.1).bind fun r138 =>
  (gsel false r138.2 (some (r106.1, r138.2)) r137.1).bind fun r139 =>
  (gsel false r139.2 (pv r139.2 (binA Try.prog .neq 3 r138.1 r139.1)) r137.1).bind fun r140 =>
  (gsel true r140.2 (pv r140.2 (pickA r137.1 (.v (Go.Value.bool true)) r140.1)) r133.1).bind fun r141 =>
  (gsel true r141.2 (some (r141.1, r141.2)) r133.1).bind fun r142 =>
  (gsel false r142.2 (pv r142.2 (loadA Try.prog 23 r142.2 r101.1)) r142.1).bind fun r143 =>
  (gsel false r143.2 (pv r143.2 (loadA Try.prog 23 r143.2 r115.1)) r142.1).bind fun r144 =>
  (gsel false r144.2 (pv r144.2 (binA Try.prog .neq 23 r143.1 r144.1)) r142.1).bind fun r145 =>
  (gsel true r145.2 (pv r145.2 (pickA r142.1 (.v (Go.Value.bool true)) r145.1)) r133.1).bind fun r146 =>
  (gsel true r146.2 (some (r146.1, r146.2)) r133.1).bind fun r147 =>
  (gsel false r147.2 (some (r99.1, r147.2)) r147.1).bind fun r148 =>
  (gsel false r148.2 (some (r113.1, r148.2)) r147.1).bind fun r149 =>
  (gsel false r149.2 (pv r149.2 (binA Try.prog .neq 3 r148.1 r149.1)) r147.1).bind fun r150 =>
  (gsel true r150.2 (pv r150.2 (pickA r147.1 (.v (Go.Value.bool true)) r150.1)) r133.1).bind fun r151 =>
  (gsel false r151.2 (pv r151.2 (pickA r133.1 r151.1 (.v (Go.Value.bool false)))) r129.1).bind fun r152 =>
  (pv r152.2 (pickA r129.1 (.v (Go.Value.bool true)) r152.1)).bind fun r153 =>
  condA r153.1 (some (.ret, ⟨((6, (.v (Go.Value.bool false))) :: (122, r153.1) :: (20, r113.1) :: (19, r115.1) :: (17, r106.1) :: (16, r108.1) :: (14, r99.1) :: (13, r101.1) :: (58, r95.1) :: (prune kp_l12_DirentBack (prune kp_l12_DirentBack (prune kp_l12_DirentBack (prune kp_l12_DirentBack (prune kp_l12_DirentBack (prune kp_l12_DirentBack s.env))))))), r153.2⟩)) ((pv r153.2 (binA Try.prog .add 3 (get (prune kp_l12_DirentBack (prune kp_l12_DirentBack (prune kp_l12_DirentBack (prune kp_l12_DirentBack (prune kp_l12_DirentBack s.env))))) 12) (.v (Go.Value.int Go.IntKind.i64 1)))).bind fun r154 =>
  some (.normal, ⟨((12, r154.1) :: (122, r153.1) :: (20, r113.1) :: (19, r115.1) :: (17, r106.1) :: (16, r108.1) :: (14, r99.1) :: (13, r101.1) :: (58, r95.1) :: (prune kp_l12_DirentBack (prune kp_l12_DirentBack (prune kp_l12_DirentBack (prune kp_l12_DirentBack (prune kp_l12_DirentBack (prune kp_l12_DirentBack s.env))))))), r154.2⟩))) (some (.exit 0, ⟨((58, r95.1) :: (prune kp_l12_DirentBack s.env)), r95.2⟩))
noncomputable def B_l12_DirentBack_0 (E : FnA) (_n _n0 : Nat) (x12 x11 x10 x40 x9 x8 x7 x23 x6 x5 x3 x0 x1 x2 : AV) (y : Bx) : Option (Ex × S) :=
  (pv y (binA Try.prog .lss 3 x12 (.v (Go.Value.int Go.IntKind.i64 4)))).bind fun r35 =>
  condA r35.1 ((pv r35.2 (loadA Try.prog 37 r35.2 x3)).bind fun r36 =>
  (callA E md0 r36.2 17 [r36.1, x12]).bind fun r37 =>
  (pv r37.2 (tupA r37.1 0)).bind fun r38 =>
  (pv r38.2 (tupA r37.1 1)).bind fun r39 =>
  (pv r39.2 (tupA r37.1 2)).bind fun r40 =>
  (allocA Try.prog r40.2 23).bind fun r41 =>
  (stA Try.prog 23 r41.2 r41.1 r38.1).bind fun r42 =>
  (pv r42.2 (loadA Try.prog 37 r42.2 x8)).bind fun r43 =>
  (callA E md0 r43.2 17 [r43.1, x12]).bind fun r44 =>
  (pv r44.2 (tupA r44.1 0)).bind fun r45 =>
  (pv r45.2 (tupA r44.1 1)).bind fun r46 =>
  (pv r46.2 (tupA r44.1 2)).bind fun r47 =>
  (allocA Try.prog r47.2 23).bind fun r48 =>
  (stA Try.prog 23 r48.2 r48.1 r45.1).bind fun r49 =>
  (pv r49.2 (loadA Try.prog 37 r49.2 x10)).bind fun r50 =>
  (callA E md0 r50.2 17 [r50.1, x12]).bind fun r51 =>
  (pv r51.2 (tupA r51.1 0)).bind fun r52 =>
  (pv r52.2 (tupA r51.1 1)).bind fun r53 =>
  (pv r53.2 (tupA r51.1 2)).bind fun r54 =>
  (allocA Try.prog r54.2 23).bind fun r55 =>
  (stA Try.prog 23 r55.2 r55.1 r52.1).bind fun r56 =>
  (pv r56.2 (binA Try.prog .eql 3 x12 x7)).bind fun r57 =>
  (gsel true r57.2 (pv r57.2 (loadA Try.prog 23 r57.2 r48.1)) r57.1).bind fun r58 =>
  (gsel true r58.2 (pv r58.2 (loadA Try.prog 23 r58.2 x5)) r57.1).bind fun r59 =>
  (gsel true r59.2 (pv r59.2 (binA Try.prog .neq 23 r58.1 r59.1)) r57.1).bind fun r60 =>
  (gsel true r60.2 (some (r60.1, r60.2)) r57.1).bind fun r61 =>
  (gsel false r61.2 (some (r46.1, r61.2)) r61.1).bind fun r62 =>
  (gsel false r62.2 (pv r62.2 (binA Try.prog .neq 3 r62.1 (.v (Go.Value.int Go.IntKind.i64 1)))) r61.1).bind fun r63 =>
  (gsel true r63.2 (pv r63.2 (pickA r61.1 (.v (Go.Value.bool true)) r63.1)) r57.1).bind fun r64 =>
  (gsel true r64.2 (some (r64.1, r64.2)) r57.1).bind fun r65 =>
  (gsel false r65.2 (some (r53.1, r65.2)) r65.1).bind fun r66 =>
  (gsel false r66.2 (pv r66.2 (binA Try.prog .neq 3 r66.1 (.v (Go.Value.int Go.IntKind.i64 0)))) r65.1).bind fun r67 =>
  (gsel true r67.2 (pv r67.2 (pickA r65.1 (.v (Go.Value.bool true)) r67.1)) r57.1).bind fun r68 =>
  (pv r68.2 (pickA r57.1 r68.1 (.v (Go.Value.bool false)))).bind fun r69 =>
  (gsel false r69.2 (some (x12, r69.2)) r69.1).bind fun r70 =>
  (gsel false r70.2 (some (x7, r70.2)) r69.1).bind fun r71 =>
  (gsel false r71.2 (pv r71.2 (binA Try.prog .neq 3 r70.1 r71.1)) r69.1).bind fun r72 =>
  (gsel false r72.2 (some (r72.1, r72.2)) r69.1).bind fun r73 =>
  (gsel true r73.2 (pv r73.2 (loadA Try.prog 23 r73.2 r41.1)) r73.1).bind fun r74 =>
  (gsel true r74.2 (pv r74.2 (loadA Try.prog 23 r74.2 r48.1)) r73.1).bind fun r75 =>
  (gsel true r75.2 (pv r75.2 (binA Try.prog .neq 23 r74.1 r75.1)) r73.1).bind fun r76 =>
  (gsel true r76.2 (some (r76.1, r76.2)) r73.1).bind fun r77 =>
  (gsel false r77.2 (some (r39.1, r77.2)) r77.1).bind fun r78 =>
  (gsel false r78.2 (some (r46.1, r78.2)) r77.1).bind fun r79 =>
  (gsel false r79.2 (pv r79.2 (binA Try.prog .neq 3 r78.1 r79.1)) r77.1).bind fun r80 =>
  (gsel true r80.2 (pv r80.2 (pickA r77.1 (.v (Go.Value.bool true)) r80.1)) r73.1).bind fun r81 =>
  (gsel true r81.2 (some (r81.1, r81.2)) r73.1).bind fun r82 =>
  (gsel false r82.2 (pv r82.2 (loadA Try.prog 23 r82.2 r41.1)) r82.1).bind fun r83 =>
  (gsel false r83.2 (pv r83.2 (loadA Try.prog 23 r83.2 r55.1)) r82.1).bind fun r84 =>
  (gsel false r84.2 (pv r84.2 (binA Try.prog .neq 23 r83.1 r84.1)) r82.1).bind fun r85 =>
  (gsel true r85.2 (pv r85.2 (pickA r82.1 (.v (Go.Value.bool true)) r85.1)) r73.1).bind fun r86 =>
  (gsel true r86.2 (some (r86.1, r86.2)) r73.1).bind fun r87 =>
  (gsel false r87.2 (some (r39.1, r87.2)) r87.1).bind fun r88 =>
  (gsel false r88.2 (some (r53.1, r88.2)) r87.1).bind fun r89 =>
  (gsel false r89.2 (pv r89.2 (binA Try.prog .neq 3 r88.1 r89.1)) r87.1).bind fun r90 =>
  (gsel true r90.2 (pv r90.2 (pickA r87.1 (.v (Go.Value.bool true)) r90.1)) r73.1).bind fun r91 =>
  (gsel false r91.2 (pv r91.2 (pickA r73.1 r91.1 (.v (Go.Value.bool false)))) r69.1).bind fun r92 =>
  (pv r92.2 (pickA r69.1 (.v (Go.Value.bool true)) r92.1)).bind fun r93 =>
  condA r93.1 (some (.ret, ⟨[(6, (.v (Go.Value.bool false))), (122, r93.1), (20, r53.1), (19, r55.1), (17, r46.1), (16, r48.1), (14, r39.1), (13, r41.1), (58, r35.1), (12, x12), (11, x11), (10, x10), (40, x40), (9, x9), (8, x8), (7, x7), (23, x23), (6, x6), (5, x5), (3, x3), (0, x0), (1, x1), (2, x2)], r93.2⟩)) ((pv r93.2 (binA Try.prog .add 3 x12 (.v (Go.Value.int Go.IntKind.i64 1)))).bind fun r94 =>
  some (.normal, ⟨[(12, r94.1), (122, r93.1), (20, r53.1), (19, r55.1), (17, r46.1), (16, r48.1), (14, r39.1), (13, r41.1), (58, r35.1), (12, x12), (11, x11), (10, x10), (40, x40), (9, x9), (8, x8), (7, x7), (23, x23), (6, x6), (5, x5), (3, x3), (0, x0), (1, x1), (2, x2)], r94.2⟩))) (some (.exit 0, ⟨[(58, r35.1), (12, x12), (11, x11), (10, x10), (40, x40), (9, x9), (8, x8), (7, x7), (23, x23), (6, x6), (5, x5), (3, x3), (0, x0), (1, x1), (2, x2)], r35.2⟩))
theorem L_l12_DirentBack_0_lit {E : FnA} {n n0 : Nat} {x12 x11 x10 x40 x9 x8 x7 x23 x6 x5 x3 x0 x1 x2 : AV} {y : Bx} {Q : Ex → S → Prop} (h : Ends (B_l12_DirentBack_0 E n n0 x12 x11 x10 x40 x9 x8 x7 x23 x6 x5 x3 x0 x1 x2 y) Q) : Ends (L_l12_DirentBack_0 E n n0 ⟨[(12, x12), (11, x11), (10, x10), (40, x40), (9, x9), (8, x8), (7, x7), (23, x23), (6, x6), (5, x5), (3, x3), (0, x0), (1, x1), (2, x2)], y⟩) Q := by
  rw [show L_l12_DirentBack_0 E n n0 ⟨[(12, x12), (11, x11), (10, x10), (40, x40), (9, x9), (8, x8), (7, x7), (23, x23), (6, x6), (5, x5), (3, x3), (0, x0), (1, x1), (2, x2)], y⟩ = B_l12_DirentBack_0 E n n0 x12 x11 x10 x40 x9 x8 x7 x23 x6 x5 x3 x0 x1 x2 y by kernel_rfl]
  exact h
noncomputable def K_l12_DirentBack_0 (_E : FnA) (_n _n0 : Nat) (t : S) : Option (Ex × S) :=
  (pv t.bx (binA Try.prog .eql 25 (get t.env 11) (.v (Go.Value.int Go.IntKind.i64 0)))).bind fun r156 =>
  some (.ret, ⟨((6, r156.1) :: (prune kp_l12_DirentBack t.env)), r156.2⟩)
noncomputable def X_l12_DirentBack_0 (_E : FnA) (_n _n0 : Nat) (i : Nat) (t : S) : Option (Ex × S) :=
  if i = 0 then (pv t.bx (binA Try.prog .eql 25 (get t.env 11) (.v (Go.Value.int Go.IntKind.i64 0)))).bind fun r155 =>
  some (.ret, ⟨((6, r155.1) :: (prune kp_l12_DirentBack t.env)), r155.2⟩) else some (.exit i, ⟨t.env, t.bx⟩)
noncomputable def X_l12_DirentBack_0_0 (_E : FnA) (_n _n0 : Nat) (x58 x12 x11 x10 x40 x9 x8 x7 x23 x6 x5 x3 x0 x1 x2 : AV) (y : Bx) : Option (Ex × S) :=
  (pv y (binA Try.prog .eql 25 x11 (.v (Go.Value.int Go.IntKind.i64 0)))).bind fun r157 =>
  some (.ret, ⟨[(6, r157.1), (58, x58), (12, x12), (11, x11), (10, x10), (40, x40), (9, x9), (8, x8), (7, x7), (23, x23), (6, x6), (5, x5), (3, x3), (0, x0), (1, x1), (2, x2)], r157.2⟩)
theorem X_l12_DirentBack_0_0_lit {E : FnA} {n n0 : Nat} {x58 x12 x11 x10 x40 x9 x8 x7 x23 x6 x5 x3 x0 x1 x2 : AV} {y : Bx} {Q : Ex → S → Prop} (h : Ends (X_l12_DirentBack_0_0 E n n0 x58 x12 x11 x10 x40 x9 x8 x7 x23 x6 x5 x3 x0 x1 x2 y) Q) : Ends (X_l12_DirentBack_0 E n n0 0 ⟨[(58, x58), (12, x12), (11, x11), (10, x10), (40, x40), (9, x9), (8, x8), (7, x7), (23, x23), (6, x6), (5, x5), (3, x3), (0, x0), (1, x1), (2, x2)], y⟩) Q := by
  rw [show X_l12_DirentBack_0 E n n0 0 ⟨[(58, x58), (12, x12), (11, x11), (10, x10), (40, x40), (9, x9), (8, x8), (7, x7), (23, x23), (6, x6), (5, x5), (3, x3), (0, x0), (1, x1), (2, x2)], y⟩ = X_l12_DirentBack_0_0 E n n0 x58 x12 x11 x10 x40 x9 x8 x7 x23 x6 x5 x3 x0 x1 x2 y by kernel_rfl]
  exact h
noncomputable def F_l12_DirentBack (E : FnA) (n n0 : Nat) (a0 a1 a2 : AV) (bx : Bx) : Option (Ex × S) :=
  (boxA bx a0).bind fun r1 =>
  (boxA r1.2 a2).bind fun r2 =>
  (callA E md0 r2.2 13 []).bind fun r3 =>
  (pv r3.2 (unA .not r3.1)).bind fun r4 =>
  condA r4.1 (some (.ret, ⟨[(6, (.v (Go.Value.bool false))), (23, r4.1), (6, (.v (Go.Value.bool false))), (5, r2.1), (3, r1.1), (0, a0), (1, a1), (2, a2)], r4.2⟩)) ((pv r4.2 (binA Try.prog .rem 5 a1 (.v (Go.Value.int Go.IntKind.u8 4)))).bind fun r5 =>
  (convA Try.prog r5.2 5 3 r5.1).bind fun r6 =>
  (pv r6.2 (fieldAddrA Try.prog 23 r2.1 0)).bind fun r7 =>
  (pv r7.2 (loadA Try.prog 3 r7.2 r7.1)).bind fun r8 =>
  (callA E md0 r8.2 14 [r8.1, (.v (Go.Value.int Go.IntKind.i64 65535))]).bind fun r9 =>
  (pv r9.2 (binA Try.prog .add 3 (.v (Go.Value.int Go.IntKind.i64 1)) r9.1)).bind fun r10 =>
  (pv r10.2 (fieldAddrA Try.prog 23 r2.1 0)).bind fun r11 =>
  (stA Try.prog 3 r11.2 r11.1 r10.1).bind fun r12 =>
  (pv r12.2 (loadA Try.prog 37 r12.2 r1.1)).bind fun r13 =>
  (pv r13.2 (loadA Try.prog 23 r13.2 r2.1)).bind fun r14 =>
  (callA E md0 r14.2 15 [r13.1, r6.1, r14.1]).bind fun r15 =>
  (pv r15.2 (tupA r15.1 0)).bind fun r16 =>
  (pv r16.2 (tupA r15.1 1)).bind fun r17 =>
  (allocA Try.prog r17.2 37).bind fun r18 =>
  (stA Try.prog 37 r18.2 r18.1 r16.1).bind fun r19 =>
  (pv r19.2 (binA Try.prog .neq 25 r17.1 (.v (Go.Value.int Go.IntKind.i64 0)))).bind fun r20 =>
  condA r20.1 ((pv r20.2 (fieldAddrA Try.prog 23 r2.1 1)).bind fun r21 =>
  (pv r21.2 (loadA Try.prog 9 r21.2 r21.1)).bind fun r22 =>
  (callA E md0 r22.2 11 [r22.1]).bind fun r23 =>
  (pv r23.2 (binA Try.prog .eql 25 r23.1 r17.1)).bind fun r24 =>
  (gsel true r24.2 (pv r24.2 (loadA Try.prog 37 r24.2 r18.1)) r24.1).bind fun r25 =>
  (gsel true r25.2 (pv r25.2 (buildA Try.prog 37 [])) r24.1).bind fun r26 =>
  (gsel true r26.2 (pv r26.2 (binA Try.prog .eql 37 r25.1 r26.1)) r24.1).bind fun r27 =>
  (pv r27.2 (pickA r24.1 r27.1 (.v (Go.Value.bool false)))).bind fun r28 =>
  some (.ret, ⟨[(6, r28.1), (40, r20.1), (9, r17.1), (8, r18.1), (7, r6.1), (23, r4.1), (6, (.v (Go.Value.bool false))), (5, r2.1), (3, r1.1), (0, a0), (1, a1), (2, a2)], r28.2⟩)) ((pv r20.2 (loadA Try.prog 37 r20.2 r18.1)).bind fun r29 =>
  (callA E md0 r29.2 16 [r29.1, r6.1]).bind fun r30 =>
  (pv r30.2 (tupA r30.1 0)).bind fun r31 =>
  (pv r31.2 (tupA r30.1 1)).bind fun r32 =>
  (allocA Try.prog r32.2 37).bind fun r33 =>
  (stA Try.prog 37 r33.2 r33.1 r31.1).bind fun r34 =>
  exitA (iter ⟨[(12, (.v (Go.Value.int Go.IntKind.i64 0))), (11, r32.1), (10, r33.1), (40, r20.1), (9, r17.1), (8, r18.1), (7, r6.1), (23, r4.1), (6, (.v (Go.Value.bool false))), (5, r2.1), (3, r1.1), (0, a0), (1, a1), (2, a2)], r34.2⟩ (L_l12_DirentBack_0 E n n0) n ⟨[(12, (.v (Go.Value.int Go.IntKind.i64 0))), (11, r32.1), (10, r33.1), (40, r20.1), (9, r17.1), (8, r18.1), (7, r6.1), (23, r4.1), (6, (.v (Go.Value.bool false))), (5, r2.1), (3, r1.1), (0, a0), (1, a1), (2, a2)], r34.2⟩) (K_l12_DirentBack_0 E n n0) (X_l12_DirentBack_0 E n n0)))
theorem c_l12_DirentBack_eq : Try.f5.body = some c_l12_DirentBack := by kernel_rfl
theorem d_l12_DirentBack : drawsOk Try.prog md0 c_l12_DirentBack = true := by kernel_rfl
theorem F_l12_DirentBack_eq (E : FnA) (n n0 : Nat) (a0 a1 a2 : AV) (bx : Bx) : evK Try.prog md0 E 125 kp_l12_DirentBack n n0 c_l12_DirentBack ⟨[(0, a0), (1, a1), (2, a2)], bx⟩ (fun s => some (.normal, s)) (fun i s => some (.exit i, s)) = F_l12_DirentBack E n n0 a0 a1 a2 bx := by kernel_rfl

theorem E_l12_DirentBack (n : Nat) (a0 a1 a2 : AV) (bx : Bx) : evFn cx0 ext0 (n + 1) 5 [a0, a1, a2] bx = fin Try.prog [.tmp 6] (F_l12_DirentBack (evFn cx0 ext0 n) n bx.length a0 a1 a2 bx) := by
  rw [evFn_eq2 (cx := cx0) (c := c_l12_DirentBack) rfl Try.func5 c_l12_DirentBack_eq (of_decide_eq_true (by kernel_rfl)) d_l12_DirentBack (of_decide_eq_true (by kernel_rfl))]
  exact congrArg (fin Try.prog [.tmp 6]) (F_l12_DirentBack_eq (evFn cx0 ext0 n) n bx.length a0 a1 a2 bx)

/-- scupper/scupperlaw12.DirentFinds -/
def kp_l12_DirentFinds : Option (List Nat) := some [0, 1, 2, 4, 5, 6, 7, 16, 20, 48]
noncomputable def c_l12_DirentFinds : Code := Try.f6.body.getD .skip
noncomputable def L_l12_DirentFinds_0 (E : FnA) (_n _n0 : Nat) (s : S) : Option (Ex × S) :=
  (pv s.bx (lenA Try.prog 45 (get s.env 5))).bind fun r33 =>
  (pv r33.2 (binA Try.prog .lss 3 (get s.env 7) r33.1)).bind fun r34 =>
  condA r34.1 ((pv r34.2 (indexAddrA Try.prog 45 (get (prune kp_l12_DirentFinds s.env) 5) (get (prune kp_l12_DirentFinds s.env) 7))).bind fun r35 =>
  (pv r35.2 (loadA Try.prog 23 r35.2 r35.1)).bind fun r36 =>
  (pv r36.2 (indexAddrA Try.prog 45 (get (prune kp_l12_DirentFinds s.env) 6) (get (prune kp_l12_DirentFinds s.env) 7))).bind fun r37 =>
  (pv r37.2 (loadA Try.prog 23 r37.2 r37.1)).bind fun r38 =>
  (pv r38.2 (binA Try.prog .neq 23 r36.1 r38.1)).bind fun r39 =>
  (gsel false r39.2 (pv r39.2 (loadA Try.prog 37 r39.2 (get (prune kp_l12_DirentFinds s.env) 2))) r39.1).bind fun r40 =>
  (gsel false r40.2 (some ((get (prune kp_l12_DirentFinds s.env) 6), r40.2)) r39.1).bind fun r41 =>
  (gsel false r41.2 (some ((get (prune kp_l12_DirentFinds s.env) 7), r41.2)) r39.1).bind fun r42 =>
  (gsel false r42.2 (pv r42.2 (indexAddrA Try.prog 45 r41.1 r42.1)) r39.1).bind fun r43 =>
  (gsel false r43.2 (pv r43.2 (fieldAddrA Try.prog 23 r43.1 1)) r39.1).bind fun r44 =>
  (gsel false r44.2 (pv r44.2 (loadA Try.prog 9 r44.2 r44.1)) r39.1).bind fun r45 =>
  (gsel false r45.2 (callA E md0 r45.2 20 [r40.1, r45.1]) r39.1).bind fun r46 =>
  (gsel false r46.2 (pv r46.2 (loadA Try.prog 37 r46.2 (get (prune kp_l12_DirentFinds s.env) 2))) r39.1).bind fun r47 =>
  (gsel false r47.2 (some ((get (prune kp_l12_DirentFinds s.env) 6), r47.2)) r39.1).bind fun r48 =>
  (gsel false r48.2 (some ((get (prune kp_l12_DirentFinds s.env) 7), r48.2)) r39.1).bind fun r49 =>
  (gsel false r49.2 (pv r49.2 (indexAddrA Try.prog 45 r48.1 r49.1)) r39.1).bind fun r50 =>
  (gsel false r50.2 (pv r50.2 (fieldAddrA Try.prog 23 r50.1 1)) r39.1).bind fun r51 =>
  (gsel false r51.2 (pv r51.2 (loadA Try.prog 9 r51.2 r51.1)) r39.1).bind fun r52 =>
  (gsel false r52.2 (callA E md0 r52.2 21 [r47.1, r52.1]) r39.1).bind fun r53 =>
  (gsel false r53.2 (pv r53.2 (binA Try.prog .neq 3 r46.1 r53.1)) r39.1).bind fun r54 =>
  (pv r54.2 (pickA r39.1 (.v (Go.Value.bool true)) r54.1)).bind fun r55 =>
  condA r55.1 (some (.ret, ⟨((4, (.v (Go.Value.bool false))) :: (48, r55.1) :: (20, r34.1) :: (prune kp_l12_DirentFinds (prune kp_l12_DirentFinds (prune kp_l12_DirentFinds s.env)))), r55.2⟩)) ((pv r55.2 (binA Try.prog .add 3 (get (prune kp_l12_DirentFinds (prune kp_l12_DirentFinds s.env)) 7) (.v (Go.Value.int Go.IntKind.i64 1)))).bind fun r56 =>
  some (.normal, ⟨((7, r56.1) :: (48, r55.1) :: (20, r34.1) :: (prune kp_l12_DirentFinds (prune kp_l12_DirentFinds (prune kp_l12_DirentFinds s.env)))), r56.2⟩))) (some (.exit 0, ⟨((20, r34.1) :: (prune kp_l12_DirentFinds s.env)), r34.2⟩))
noncomputable def B_l12_DirentFinds_0 (E : FnA) (_n _n0 : Nat) (x7 x16 x6 x5 x4 x2 x0 x1 : AV) (y : Bx) : Option (Ex × S) :=
  (pv y (lenA Try.prog 45 x5)).bind fun r9 =>
  (pv r9.2 (binA Try.prog .lss 3 x7 r9.1)).bind fun r10 =>
  condA r10.1 ((pv r10.2 (indexAddrA Try.prog 45 x5 x7)).bind fun r11 =>
  (pv r11.2 (loadA Try.prog 23 r11.2 r11.1)).bind fun r12 =>
  (pv r12.2 (indexAddrA Try.prog 45 x6 x7)).bind fun r13 =>
  (pv r13.2 (loadA Try.prog 23 r13.2 r13.1)).bind fun r14 =>
  (pv r14.2 (binA Try.prog .neq 23 r12.1 r14.1)).bind fun r15 =>
  (gsel false r15.2 (pv r15.2 (loadA Try.prog 37 r15.2 x2)) r15.1).bind fun r16 =>
  (gsel false r16.2 (some (x6, r16.2)) r15.1).bind fun r17 =>
  (gsel false r17.2 (some (x7, r17.2)) r15.1).bind fun r18 =>
  (gsel false r18.2 (pv r18.2 (indexAddrA Try.prog 45 r17.1 r18.1)) r15.1).bind fun r19 =>
  (gsel false r19.2 (pv r19.2 (fieldAddrA Try.prog 23 r19.1 1)) r15.1).bind fun r20 =>
  (gsel false r20.2 (pv r20.2 (loadA Try.prog 9 r20.2 r20.1)) r15.1).bind fun r21 =>
  (gsel false r21.2 (callA E md0 r21.2 20 [r16.1, r21.1]) r15.1).bind fun r22 =>
  (gsel false r22.2 (pv r22.2 (loadA Try.prog 37 r22.2 x2)) r15.1).bind fun r23 =>
  (gsel false r23.2 (some (x6, r23.2)) r15.1).bind fun r24 =>
  (gsel false r24.2 (some (x7, r24.2)) r15.1).bind fun r25 =>
  (gsel false r25.2 (pv r25.2 (indexAddrA Try.prog 45 r24.1 r25.1)) r15.1).bind fun r26 =>
  (gsel false r26.2 (pv r26.2 (fieldAddrA Try.prog 23 r26.1 1)) r15.1).bind fun r27 =>
  (gsel false r27.2 (pv r27.2 (loadA Try.prog 9 r27.2 r27.1)) r15.1).bind fun r28 =>
  (gsel false r28.2 (callA E md0 r28.2 21 [r23.1, r28.1]) r15.1).bind fun r29 =>
  (gsel false r29.2 (pv r29.2 (binA Try.prog .neq 3 r22.1 r29.1)) r15.1).bind fun r30 =>
  (pv r30.2 (pickA r15.1 (.v (Go.Value.bool true)) r30.1)).bind fun r31 =>
  condA r31.1 (some (.ret, ⟨[(4, (.v (Go.Value.bool false))), (48, r31.1), (20, r10.1), (7, x7), (16, x16), (6, x6), (5, x5), (4, x4), (2, x2), (0, x0), (1, x1)], r31.2⟩)) ((pv r31.2 (binA Try.prog .add 3 x7 (.v (Go.Value.int Go.IntKind.i64 1)))).bind fun r32 =>
  some (.normal, ⟨[(7, r32.1), (48, r31.1), (20, r10.1), (7, x7), (16, x16), (6, x6), (5, x5), (4, x4), (2, x2), (0, x0), (1, x1)], r32.2⟩))) (some (.exit 0, ⟨[(20, r10.1), (7, x7), (16, x16), (6, x6), (5, x5), (4, x4), (2, x2), (0, x0), (1, x1)], r10.2⟩))
theorem L_l12_DirentFinds_0_lit {E : FnA} {n n0 : Nat} {x7 x16 x6 x5 x4 x2 x0 x1 : AV} {y : Bx} {Q : Ex → S → Prop} (h : Ends (B_l12_DirentFinds_0 E n n0 x7 x16 x6 x5 x4 x2 x0 x1 y) Q) : Ends (L_l12_DirentFinds_0 E n n0 ⟨[(7, x7), (16, x16), (6, x6), (5, x5), (4, x4), (2, x2), (0, x0), (1, x1)], y⟩) Q := by
  rw [show L_l12_DirentFinds_0 E n n0 ⟨[(7, x7), (16, x16), (6, x6), (5, x5), (4, x4), (2, x2), (0, x0), (1, x1)], y⟩ = B_l12_DirentFinds_0 E n n0 x7 x16 x6 x5 x4 x2 x0 x1 y by kernel_rfl]
  exact h
noncomputable def K_l12_DirentFinds_0 (E : FnA) (_n _n0 : Nat) (t : S) : Option (Ex × S) :=
  (pv t.bx (loadA Try.prog 37 t.bx (get t.env 2))).bind fun r70 =>
  (callA E md0 r70.2 20 [r70.1, (get t.env 1)]).bind fun r71 =>
  (pv r71.2 (loadA Try.prog 37 r71.2 (get t.env 2))).bind fun r72 =>
  (callA E md0 r72.2 21 [r72.1, (get t.env 1)]).bind fun r73 =>
  (pv r73.2 (binA Try.prog .eql 3 r71.1 r73.1)).bind fun r74 =>
  (gsel true r74.2 (pv r74.2 (loadA Try.prog 37 r74.2 (get t.env 2))) r74.1).bind fun r75 =>
  (gsel true r75.2 (callA E md0 r75.2 22 [r75.1]) r74.1).bind fun r76 =>
  (gsel true r76.2 (pv r76.2 (loadA Try.prog 37 r76.2 (get t.env 2))) r74.1).bind fun r77 =>
  (gsel true r77.2 (callA E md0 r77.2 23 [r77.1]) r74.1).bind fun r78 =>
  (gsel true r78.2 (pv r78.2 (binA Try.prog .eql 3 r76.1 r78.1)) r74.1).bind fun r79 =>
  (pv r79.2 (pickA r74.1 r79.1 (.v (Go.Value.bool false)))).bind fun r80 =>
  (gsel true r80.2 (callA E md0 r80.2 13 []) r80.1).bind fun r81 =>
  (pv r81.2 (pickA r80.1 r81.1 (.v (Go.Value.bool false)))).bind fun r82 =>
  some (.ret, ⟨((4, r82.1) :: (prune kp_l12_DirentFinds t.env)), r82.2⟩)
noncomputable def X_l12_DirentFinds_0 (E : FnA) (_n _n0 : Nat) (i : Nat) (t : S) : Option (Ex × S) :=
  if i = 0 then (pv t.bx (loadA Try.prog 37 t.bx (get t.env 2))).bind fun r57 =>
  (callA E md0 r57.2 20 [r57.1, (get t.env 1)]).bind fun r58 =>
  (pv r58.2 (loadA Try.prog 37 r58.2 (get t.env 2))).bind fun r59 =>
  (callA E md0 r59.2 21 [r59.1, (get t.env 1)]).bind fun r60 =>
  (pv r60.2 (binA Try.prog .eql 3 r58.1 r60.1)).bind fun r61 =>
  (gsel true r61.2 (pv r61.2 (loadA Try.prog 37 r61.2 (get t.env 2))) r61.1).bind fun r62 =>
  (gsel true r62.2 (callA E md0 r62.2 22 [r62.1]) r61.1).bind fun r63 =>
  (gsel true r63.2 (pv r63.2 (loadA Try.prog 37 r63.2 (get t.env 2))) r61.1).bind fun r64 =>
  (gsel true r64.2 (callA E md0 r64.2 23 [r64.1]) r61.1).bind fun r65 =>
  (gsel true r65.2 (pv r65.2 (binA Try.prog .eql 3 r63.1 r65.1)) r61.1).bind fun r66 =>
  (pv r66.2 (pickA r61.1 r66.1 (.v (Go.Value.bool false)))).bind fun r67 =>
  (gsel true r67.2 (callA E md0 r67.2 13 []) r67.1).bind fun r68 =>
  (pv r68.2 (pickA r67.1 r68.1 (.v (Go.Value.bool false)))).bind fun r69 =>
  some (.ret, ⟨((4, r69.1) :: (prune kp_l12_DirentFinds t.env)), r69.2⟩) else some (.exit i, ⟨t.env, t.bx⟩)
noncomputable def X_l12_DirentFinds_0_0 (E : FnA) (_n _n0 : Nat) (x20 x7 x16 x6 x5 x4 x2 x0 x1 : AV) (y : Bx) : Option (Ex × S) :=
  (pv y (loadA Try.prog 37 y x2)).bind fun r83 =>
  (callA E md0 r83.2 20 [r83.1, x1]).bind fun r84 =>
  (pv r84.2 (loadA Try.prog 37 r84.2 x2)).bind fun r85 =>
  (callA E md0 r85.2 21 [r85.1, x1]).bind fun r86 =>
  (pv r86.2 (binA Try.prog .eql 3 r84.1 r86.1)).bind fun r87 =>
  (gsel true r87.2 (pv r87.2 (loadA Try.prog 37 r87.2 x2)) r87.1).bind fun r88 =>
  (gsel true r88.2 (callA E md0 r88.2 22 [r88.1]) r87.1).bind fun r89 =>
  (gsel true r89.2 (pv r89.2 (loadA Try.prog 37 r89.2 x2)) r87.1).bind fun r90 =>
  (gsel true r90.2 (callA E md0 r90.2 23 [r90.1]) r87.1).bind fun r91 =>
  (gsel true r91.2 (pv r91.2 (binA Try.prog .eql 3 r89.1 r91.1)) r87.1).bind fun r92 =>
  (pv r92.2 (pickA r87.1 r92.1 (.v (Go.Value.bool false)))).bind fun r93 =>
  (gsel true r93.2 (callA E md0 r93.2 13 []) r93.1).bind fun r94 =>
  (pv r94.2 (pickA r93.1 r94.1 (.v (Go.Value.bool false)))).bind fun r95 =>
  some (.ret, ⟨[(4, r95.1), (20, x20), (7, x7), (16, x16), (6, x6), (5, x5), (4, x4), (2, x2), (0, x0), (1, x1)], r95.2⟩)
theorem X_l12_DirentFinds_0_0_lit {E : FnA} {n n0 : Nat} {x20 x7 x16 x6 x5 x4 x2 x0 x1 : AV} {y : Bx} {Q : Ex → S → Prop} (h : Ends (X_l12_DirentFinds_0_0 E n n0 x20 x7 x16 x6 x5 x4 x2 x0 x1 y) Q) : Ends (X_l12_DirentFinds_0 E n n0 0 ⟨[(20, x20), (7, x7), (16, x16), (6, x6), (5, x5), (4, x4), (2, x2), (0, x0), (1, x1)], y⟩) Q := by
  rw [show X_l12_DirentFinds_0 E n n0 0 ⟨[(20, x20), (7, x7), (16, x16), (6, x6), (5, x5), (4, x4), (2, x2), (0, x0), (1, x1)], y⟩ = X_l12_DirentFinds_0_0 E n n0 x20 x7 x16 x6 x5 x4 x2 x0 x1 y by kernel_rfl]
  exact h
noncomputable def F_l12_DirentFinds (E : FnA) (n n0 : Nat) (a0 a1 : AV) (bx : Bx) : Option (Ex × S) :=
  (boxA bx a0).bind fun r1 =>
  (pv r1.2 (loadA Try.prog 37 r1.2 r1.1)).bind fun r2 =>
  (callA E md0 r2.2 18 [r2.1]).bind fun r3 =>
  (pv r3.2 (loadA Try.prog 37 r3.2 r1.1)).bind fun r4 =>
  (callA E md0 r4.2 19 [r4.1]).bind fun r5 =>
  (pv r5.2 (lenA Try.prog 45 r3.1)).bind fun r6 =>
  (pv r6.2 (lenA Try.prog 45 r5.1)).bind fun r7 =>
  (pv r7.2 (binA Try.prog .neq 3 r6.1 r7.1)).bind fun r8 =>
  condA r8.1 (some (.ret, ⟨[(4, (.v (Go.Value.bool false))), (16, r8.1), (6, r5.1), (5, r3.1), (4, (.v (Go.Value.bool false))), (2, r1.1), (0, a0), (1, a1)], r8.2⟩)) (exitA (iter ⟨[(7, (.v (Go.Value.int Go.IntKind.i64 0))), (16, r8.1), (6, r5.1), (5, r3.1), (4, (.v (Go.Value.bool false))), (2, r1.1), (0, a0), (1, a1)], r8.2⟩ (L_l12_DirentFinds_0 E n n0) n ⟨[(7, (.v (Go.Value.int Go.IntKind.i64 0))), (16, r8.1), (6, r5.1), (5, r3.1), (4, (.v (Go.Value.bool false))), (2, r1.1), (0, a0), (1, a1)], r8.2⟩) (K_l12_DirentFinds_0 E n n0) (X_l12_DirentFinds_0 E n n0))
theorem c_l12_DirentFinds_eq : Try.f6.body = some c_l12_DirentFinds := by kernel_rfl
theorem d_l12_DirentFinds : drawsOk Try.prog md0 c_l12_DirentFinds = true := by kernel_rfl
theorem F_l12_DirentFinds_eq (E : FnA) (n n0 : Nat) (a0 a1 : AV) (bx : Bx) : evK Try.prog md0 E 66 kp_l12_DirentFinds n n0 c_l12_DirentFinds ⟨[(0, a0), (1, a1)], bx⟩ (fun s => some (.normal, s)) (fun i s => some (.exit i, s)) = F_l12_DirentFinds E n n0 a0 a1 bx := by kernel_rfl

theorem E_l12_DirentFinds (n : Nat) (a0 a1 : AV) (bx : Bx) : evFn cx0 ext0 (n + 1) 6 [a0, a1] bx = fin Try.prog [.tmp 4] (F_l12_DirentFinds (evFn cx0 ext0 n) n bx.length a0 a1 bx) := by
  rw [evFn_eq2 (cx := cx0) (c := c_l12_DirentFinds) rfl Try.func6 c_l12_DirentFinds_eq (of_decide_eq_true (by kernel_rfl)) d_l12_DirentFinds (of_decide_eq_true (by kernel_rfl))]
  exact congrArg (fin Try.prog [.tmp 4]) (F_l12_DirentFinds_eq (evFn cx0 ext0 n) n bx.length a0 a1 bx)

/-- scupper/scupperlaw12.DirentLoads -/
def kp_l12_DirentLoads : Option (List Nat) := some [0, 1, 2, 3, 5, 6, 7, 8, 9, 10, 11, 12, 13, 14, 15, 16, 17, 18, 19, 20, 21, 22, 107]
noncomputable def c_l12_DirentLoads : Code := Try.f7.body.getD .skip
noncomputable def F_l12_DirentLoads (E : FnA) (_n _n0 : Nat) (a0 a1 a2 : AV) (bx : Bx) : Option (Ex × S) :=
  (boxA bx a0).bind fun r1 =>
  (boxA r1.2 a2).bind fun r2 =>
  (pv r2.2 (fieldAddrA Try.prog 23 r2.1 1)).bind fun r3 =>
  (pv r3.2 (loadA Try.prog 9 r3.2 r3.1)).bind fun r4 =>
  (pv r4.2 (fieldAddrA Try.prog 23 r2.1 1)).bind fun r5 =>
  (pv r5.2 (loadA Try.prog 9 r5.2 r5.1)).bind fun r6 =>
  (pv r6.2 (lenA Try.prog 9 r6.1)).bind fun r7 =>
  (pv r7.2 (minL false r7.1 [(.v (Go.Value.int Go.IntKind.i64 100))])).bind fun r8 =>
  (pv r8.2 (sliceA Try.prog r8.2 9 r4.1 none (some r8.1) none)).bind fun r9 =>
  (pv r9.2 (fieldAddrA Try.prog 23 r2.1 1)).bind fun r10 =>
  (stA Try.prog 9 r10.2 r10.1 r9.1).bind fun r11 =>
  (pv r11.2 (loadA Try.prog 37 r11.2 r1.1)).bind fun r12 =>
  (callA E md0 r12.2 17 [r12.1, a1]).bind fun r13 =>
  (pv r13.2 (tupA r13.1 0)).bind fun r14 =>
  (pv r14.2 (tupA r13.1 1)).bind fun r15 =>
  (pv r15.2 (tupA r13.1 2)).bind fun r16 =>
  (allocA Try.prog r16.2 23).bind fun r17 =>
  (stA Try.prog 23 r17.2 r17.1 r14.1).bind fun r18 =>
  (pv r18.2 (loadA Try.prog 37 r18.2 r1.1)).bind fun r19 =>
  (callA E md0 r19.2 24 [r19.1, a1]).bind fun r20 =>
  (pv r20.2 (tupA r20.1 0)).bind fun r21 =>
  (pv r21.2 (tupA r20.1 1)).bind fun r22 =>
  (pv r22.2 (tupA r20.1 2)).bind fun r23 =>
  (allocA Try.prog r23.2 23).bind fun r24 =>
  (stA Try.prog 23 r24.2 r24.1 r21.1).bind fun r25 =>
  (pv r25.2 (loadA Try.prog 37 r25.2 r1.1)).bind fun r26 =>
  (pv r26.2 (loadA Try.prog 23 r26.2 r2.1)).bind fun r27 =>
  (callA E md0 r27.2 15 [r26.1, a1, r27.1]).bind fun r28 =>
  (pv r28.2 (tupA r28.1 0)).bind fun r29 =>
  (pv r29.2 (tupA r28.1 1)).bind fun r30 =>
  (allocA Try.prog r30.2 37).bind fun r31 =>
  (stA Try.prog 37 r31.2 r31.1 r29.1).bind fun r32 =>
  (pv r32.2 (loadA Try.prog 37 r32.2 r1.1)).bind fun r33 =>
  (pv r33.2 (loadA Try.prog 23 r33.2 r2.1)).bind fun r34 =>
  (callA E md0 r34.2 25 [r33.1, a1, r34.1]).bind fun r35 =>
  (pv r35.2 (tupA r35.1 0)).bind fun r36 =>
  (pv r36.2 (tupA r35.1 1)).bind fun r37 =>
  (allocA Try.prog r37.2 37).bind fun r38 =>
  (stA Try.prog 37 r38.2 r38.1 r36.1).bind fun r39 =>
  (pv r39.2 (loadA Try.prog 37 r39.2 r1.1)).bind fun r40 =>
  (callA E md0 r40.2 16 [r40.1, a1]).bind fun r41 =>
  (pv r41.2 (tupA r41.1 0)).bind fun r42 =>
  (pv r42.2 (tupA r41.1 1)).bind fun r43 =>
  (allocA Try.prog r43.2 37).bind fun r44 =>
  (stA Try.prog 37 r44.2 r44.1 r42.1).bind fun r45 =>
  (pv r45.2 (loadA Try.prog 37 r45.2 r1.1)).bind fun r46 =>
  (callA E md0 r46.2 26 [r46.1, a1]).bind fun r47 =>
  (pv r47.2 (tupA r47.1 0)).bind fun r48 =>
  (pv r48.2 (tupA r47.1 1)).bind fun r49 =>
  (allocA Try.prog r49.2 37).bind fun r50 =>
  (stA Try.prog 37 r50.2 r50.1 r48.1).bind fun r51 =>
  (callA E md0 r51.2 27 [a1]).bind fun r52 =>
  (pv r52.2 (tupA r52.1 0)).bind fun r53 =>
  (pv r53.2 (tupA r52.1 1)).bind fun r54 =>
  (pv r54.2 (binA Try.prog .geq 3 a1 (.v (Go.Value.int Go.IntKind.i64 0)))).bind fun r55 =>
  (gsel true r55.2 (some (a1, r55.2)) r55.1).bind fun r56 =>
  (gsel true r56.2 (pv r56.2 (binA Try.prog .leq 3 r56.1 (.v (Go.Value.int Go.IntKind.i64 3)))) r55.1).bind fun r57 =>
  (pv r57.2 (pickA r55.1 r57.1 (.v (Go.Value.bool false)))).bind fun r58 =>
  (gsel true r58.2 (some (r53.1, r58.2)) r58.1).bind fun r59 =>
  (gsel true r59.2 (some (a1, r59.2)) r58.1).bind fun r60 =>
  (gsel true r60.2 (pv r60.2 (binA Try.prog .mul 3 (.v (Go.Value.int Go.IntKind.i64 13)) r60.1)) r58.1).bind fun r61 =>
  (gsel true r61.2 (pv r61.2 (binA Try.prog .neq 3 r59.1 r61.1)) r58.1).bind fun r62 =>
  (gsel true r62.2 (some (r62.1, r62.2)) r58.1).bind fun r63 =>
  (gsel false r63.2 (some (r54.1, r63.2)) r63.1).bind fun r64 =>
  (gsel false r64.2 (pv r64.2 (binA Try.prog .neq 25 r64.1 (.v (Go.Value.int Go.IntKind.i64 0)))) r63.1).bind fun r65 =>
  (gsel true r65.2 (pv r65.2 (pickA r63.1 (.v (Go.Value.bool true)) r65.1)) r58.1).bind fun r66 =>
  (pv r66.2 (pickA r58.1 r66.1 (.v (Go.Value.bool false)))).bind fun r67 =>
  (gsel false r67.2 (some (a1, r67.2)) r67.1).bind fun r68 =>
  (gsel false r68.2 (pv r68.2 (binA Try.prog .lss 3 r68.1 (.v (Go.Value.int Go.IntKind.i64 0)))) r67.1).bind fun r69 =>
  (gsel false r69.2 (some (r69.1, r69.2)) r67.1).bind fun r70 =>
  (gsel false r70.2 (some (a1, r70.2)) r70.1).bind fun r71 =>
  (gsel false r71.2 (pv r71.2 (binA Try.prog .gtr 3 r71.1 (.v (Go.Value.int Go.IntKind.i64 3)))) r70.1).bind fun r72 =>
  (gsel false r72.2 (pv r72.2 (pickA r70.1 (.v (Go.Value.bool true)) r72.1)) r67.1).bind fun r73 =>
  (gsel false r73.2 (some (r73.1, r73.2)) r67.1).bind fun r74 =>
  (gsel true r74.2 (some (r53.1, r74.2)) r74.1).bind fun r75 =>
  (gsel true r75.2 (pv r75.2 (binA Try.prog .neq 3 r75.1 (.v (Go.Value.int Go.IntKind.i64 0)))) r74.1).bind fun r76 =>
  (gsel true r76.2 (some (r76.1, r76.2)) r74.1).bind fun r77 =>
  (gsel false r77.2 (some (r54.1, r77.2)) r77.1).bind fun r78 =>
  (gsel false r78.2 (pv r78.2 (binA Try.prog .neq 25 r78.1 (.v (Go.Value.int Go.IntKind.i64 2)))) r77.1).bind fun r79 =>
  (gsel true r79.2 (pv r79.2 (pickA r77.1 (.v (Go.Value.bool true)) r79.1)) r74.1).bind fun r80 =>
  (gsel false r80.2 (pv r80.2 (pickA r74.1 r80.1 (.v (Go.Value.bool false)))) r67.1).bind fun r81 =>
  (pv r81.2 (pickA r67.1 (.v (Go.Value.bool true)) r81.1)).bind fun r82 =>
  condA r82.1 (some (.ret, ⟨[(6, (.v (Go.Value.bool false))), (107, r82.1), (22, r54.1), (21, r53.1), (20, r49.1), (19, r50.1), (18, r43.1), (17, r44.1), (16, r37.1), (15, r38.1), (14, r30.1), (13, r31.1), (12, r23.1), (11, r22.1), (10, r24.1), (9, r16.1), (8, r15.1), (7, r17.1), (6, (.v (Go.Value.bool false))), (5, r2.1), (3, r1.1), (0, a0), (1, a1), (2, a2)], r82.2⟩)) ((pv r82.2 (loadA Try.prog 23 r82.2 r17.1)).bind fun r83 =>
  (pv r83.2 (loadA Try.prog 23 r83.2 r24.1)).bind fun r84 =>
  (pv r84.2 (binA Try.prog .eql 23 r83.1 r84.1)).bind fun r85 =>
  (gsel true r85.2 (some (r15.1, r85.2)) r85.1).bind fun r86 =>
  (gsel true r86.2 (some (r22.1, r86.2)) r85.1).bind fun r87 =>
  (gsel true r87.2 (pv r87.2 (binA Try.prog .eql 3 r86.1 r87.1)) r85.1).bind fun r88 =>
  (pv r88.2 (pickA r85.1 r88.1 (.v (Go.Value.bool false)))).bind fun r89 =>
  (gsel true r89.2 (some (r16.1, r89.2)) r89.1).bind fun r90 =>
  (gsel true r90.2 (some (r23.1, r90.2)) r89.1).bind fun r91 =>
  (gsel true r91.2 (pv r91.2 (binA Try.prog .eql 25 r90.1 r91.1)) r89.1).bind fun r92 =>
  (pv r92.2 (pickA r89.1 r92.1 (.v (Go.Value.bool false)))).bind fun r93 =>
  (gsel true r93.2 (pv r93.2 (loadA Try.prog 37 r93.2 r31.1)) r93.1).bind fun r94 =>
  (gsel true r94.2 (pv r94.2 (loadA Try.prog 37 r94.2 r38.1)) r93.1).bind fun r95 =>
  (gsel true r95.2 (pv r95.2 (binA Try.prog .eql 37 r94.1 r95.1)) r93.1).bind fun r96 =>
  (pv r96.2 (pickA r93.1 r96.1 (.v (Go.Value.bool false)))).bind fun r97 =>
  (gsel true r97.2 (some (r30.1, r97.2)) r97.1).bind fun r98 =>
  (gsel true r98.2 (some (r37.1, r98.2)) r97.1).bind fun r99 =>
  (gsel true r99.2 (pv r99.2 (binA Try.prog .eql 25 r98.1 r99.1)) r97.1).bind fun r100 =>
  (pv r100.2 (pickA r97.1 r100.1 (.v (Go.Value.bool false)))).bind fun r101 =>
  (gsel true r101.2 (pv r101.2 (loadA Try.prog 37 r101.2 r44.1)) r101.1).bind fun r102 =>
  (gsel true r102.2 (pv r102.2 (loadA Try.prog 37 r102.2 r50.1)) r101.1).bind fun r103 =>
  (gsel true r103.2 (pv r103.2 (binA Try.prog .eql 37 r102.1 r103.1)) r101.1).bind fun r104 =>
  (pv r104.2 (pickA r101.1 r104.1 (.v (Go.Value.bool false)))).bind fun r105 =>
  (gsel true r105.2 (some (r43.1, r105.2)) r105.1).bind fun r106 =>
  (gsel true r106.2 (some (r49.1, r106.2)) r105.1).bind fun r107 =>
  (gsel true r107.2 (pv r107.2 (binA Try.prog .eql 25 r106.1 r107.1)) r105.1).bind fun r108 =>
  (pv r108.2 (pickA r105.1 r108.1 (.v (Go.Value.bool false)))).bind fun r109 =>
  (gsel true r109.2 (callA E md0 r109.2 13 []) r109.1).bind fun r110 =>
  (pv r110.2 (pickA r109.1 r110.1 (.v (Go.Value.bool false)))).bind fun r111 =>
  some (.ret, ⟨[(6, r111.1), (107, r82.1), (22, r54.1), (21, r53.1), (20, r49.1), (19, r50.1), (18, r43.1), (17, r44.1), (16, r37.1), (15, r38.1), (14, r30.1), (13, r31.1), (12, r23.1), (11, r22.1), (10, r24.1), (9, r16.1), (8, r15.1), (7, r17.1), (6, (.v (Go.Value.bool false))), (5, r2.1), (3, r1.1), (0, a0), (1, a1), (2, a2)], r111.2⟩))
theorem c_l12_DirentLoads_eq : Try.f7.body = some c_l12_DirentLoads := by kernel_rfl
theorem d_l12_DirentLoads : drawsOk Try.prog md0 c_l12_DirentLoads = true := by kernel_rfl
theorem F_l12_DirentLoads_eq (E : FnA) (n n0 : Nat) (a0 a1 a2 : AV) (bx : Bx) : evK Try.prog md0 E 144 kp_l12_DirentLoads n n0 c_l12_DirentLoads ⟨[(0, a0), (1, a1), (2, a2)], bx⟩ (fun s => some (.normal, s)) (fun i s => some (.exit i, s)) = F_l12_DirentLoads E n n0 a0 a1 a2 bx := by kernel_rfl

theorem E_l12_DirentLoads (n : Nat) (a0 a1 a2 : AV) (bx : Bx) : evFn cx0 ext0 (n + 1) 7 [a0, a1, a2] bx = fin Try.prog [.tmp 6] (F_l12_DirentLoads (evFn cx0 ext0 n) n bx.length a0 a1 a2 bx) := by
  rw [evFn_eq2 (cx := cx0) (c := c_l12_DirentLoads) rfl Try.func7 c_l12_DirentLoads_eq (of_decide_eq_true (by kernel_rfl)) d_l12_DirentLoads (of_decide_eq_true (by kernel_rfl))]
  exact congrArg (fin Try.prog [.tmp 6]) (F_l12_DirentLoads_eq (evFn cx0 ext0 n) n bx.length a0 a1 a2 bx)

/-- scupper/dirent.Put -/
def kp_dirent_Put : Option (List Nat) := some [0, 1, 2, 3, 4, 5, 6, 14, 20]
noncomputable def c_dirent_Put : Code := Try.f8.body.getD .skip
noncomputable def F_dirent_Put (E : FnA) (_n _n0 : Nat) (a0 : AV) (bx : Bx) : Option (Ex × S) :=
  (boxA bx a0).bind fun r1 =>
  (allocA Try.prog r1.2 24).bind fun r2 =>
  (allocA Try.prog r2.2 24).bind fun r3 =>
  (pv r3.2 (fieldAddrA Try.prog 23 r1.1 0)).bind fun r4 =>
  (pv r4.2 (loadA Try.prog 3 r4.2 r4.1)).bind fun r5 =>
  (pv r5.2 (binA Try.prog .lss 3 r5.1 (.v (Go.Value.int Go.IntKind.i64 1)))).bind fun r6 =>
  (gsel false r6.2 (pv r6.2 (fieldAddrA Try.prog 23 r1.1 0)) r6.1).bind fun r7 =>
  (gsel false r7.2 (pv r7.2 (loadA Try.prog 3 r7.2 r7.1)) r6.1).bind fun r8 =>
  (gsel false r8.2 (pv r8.2 (binA Try.prog .gtr 3 r8.1 (.v (Go.Value.int Go.IntKind.i64 65535)))) r6.1).bind fun r9 =>
  (pv r9.2 (pickA r6.1 (.v (Go.Value.bool true)) r9.1)).bind fun r10 =>
  condA r10.1 ((pv r10.2 (loadA Try.prog 24 r10.2 r3.1)).bind fun r11 =>
  (stA Try.prog 24 r11.2 r2.1 r11.1).bind fun r12 =>
  some (.ret, ⟨[(3, (.v (Go.Value.int Go.IntKind.i64 2))), (14, r10.1), (4, r3.1), (3, (.v (Go.Value.int Go.IntKind.i64 0))), (2, r2.1), (1, r1.1), (0, a0)], r12.2⟩)) ((pv r10.2 (fieldAddrA Try.prog 23 r1.1 1)).bind fun r13 =>
  (pv r13.2 (loadA Try.prog 9 r13.2 r13.1)).bind fun r14 =>
  (callA E md0 r14.2 11 [r14.1]).bind fun r15 =>
  (pv r15.2 (binA Try.prog .neq 25 r15.1 (.v (Go.Value.int Go.IntKind.i64 0)))).bind fun r16 =>
  condA r16.1 ((pv r16.2 (loadA Try.prog 24 r16.2 r3.1)).bind fun r17 =>
  (stA Try.prog 24 r17.2 r2.1 r17.1).bind fun r18 =>
  some (.ret, ⟨[(3, r15.1), (20, r16.1), (5, r15.1), (14, r10.1), (4, r3.1), (3, (.v (Go.Value.int Go.IntKind.i64 0))), (2, r2.1), (1, r1.1), (0, a0)], r18.2⟩)) ((pv r16.2 (fieldAddrA Try.prog 23 r1.1 0)).bind fun r19 =>
  (pv r19.2 (loadA Try.prog 3 r19.2 r19.1)).bind fun r20 =>
  (convA Try.prog r20.2 3 55 r20.1).bind fun r21 =>
  (callA E md0 r21.2 28 [r21.1]).bind fun r22 =>
  (allocA Try.prog r22.2 53).bind fun r23 =>
  (stA Try.prog 53 r23.2 r23.1 r22.1).bind fun r24 =>
  (pv r24.2 (sliceA Try.prog r24.2 24 r3.1 none none none)).bind fun r25 =>
  (pv r25.2 (sliceA Try.prog r25.2 53 r23.1 none none none)).bind fun r26 =>
  (copyA Try.prog r26.2 28 r25.1 r26.1).bind fun r27 =>
  (pv r27.2 (fieldAddrA Try.prog 23 r1.1 1)).bind fun r28 =>
  (pv r28.2 (loadA Try.prog 9 r28.2 r28.1)).bind fun r29 =>
  (pv r29.2 (lenA Try.prog 9 r29.1)).bind fun r30 =>
  (convA Try.prog r30.2 3 5 r30.1).bind fun r31 =>
  (pv r31.2 (indexAddrA Try.prog 24 r3.1 (.v (Go.Value.int Go.IntKind.i64 2)))).bind fun r32 =>
  (stA Try.prog 5 r32.2 r32.1 r31.1).bind fun r33 =>
  (pv r33.2 (sliceA Try.prog r33.2 24 r3.1 (some (.v (Go.Value.int Go.IntKind.i64 3))) none none)).bind fun r34 =>
  (pv r34.2 (fieldAddrA Try.prog 23 r1.1 1)).bind fun r35 =>
  (pv r35.2 (loadA Try.prog 9 r35.2 r35.1)).bind fun r36 =>
  (copyA Try.prog r36.2 28 r34.1 r36.1).bind fun r37 =>
  (pv r37.2 (loadA Try.prog 24 r37.2 r3.1)).bind fun r38 =>
  (stA Try.prog 24 r38.2 r2.1 r38.1).bind fun r39 =>
  some (.ret, ⟨[(3, (.v (Go.Value.int Go.IntKind.i64 0))), (6, r23.1), (20, r16.1), (5, r15.1), (14, r10.1), (4, r3.1), (3, (.v (Go.Value.int Go.IntKind.i64 0))), (2, r2.1), (1, r1.1), (0, a0)], r39.2⟩)))
theorem c_dirent_Put_eq : Try.f8.body = some c_dirent_Put := by kernel_rfl
theorem d_dirent_Put : drawsOk Try.prog md0 c_dirent_Put = true := by kernel_rfl
theorem F_dirent_Put_eq (E : FnA) (n n0 : Nat) (a0 : AV) (bx : Bx) : evK Try.prog md0 E 40 kp_dirent_Put n n0 c_dirent_Put ⟨[(0, a0)], bx⟩ (fun s => some (.normal, s)) (fun i s => some (.exit i, s)) = F_dirent_Put E n n0 a0 bx := by kernel_rfl

theorem E_dirent_Put (n : Nat) (a0 : AV) (bx : Bx) : evFn cx0 ext0 (n + 1) 8 [a0] bx = fin Try.prog [.cell 2 24, .tmp 3] (F_dirent_Put (evFn cx0 ext0 n) n bx.length a0 bx) := by
  rw [evFn_eq2 (cx := cx0) (c := c_dirent_Put) rfl Try.func8 c_dirent_Put_eq (of_decide_eq_true (by kernel_rfl)) d_dirent_Put (of_decide_eq_true (by kernel_rfl))]
  exact congrArg (fin Try.prog [.cell 2 24, .tmp 3]) (F_dirent_Put_eq (evFn cx0 ext0 n) n bx.length a0 bx)

/-- scupper/scupperref12.Put -/
def kp_r12_Put : Option (List Nat) := some [0, 1, 2, 3, 4, 5, 13, 19, 39]
noncomputable def c_r12_Put : Code := Try.f9.body.getD .skip
noncomputable def L_r12_Put_0 (_E : FnA) (_n n0 : Nat) (s : S) : Option (Ex × S) :=
  (pv s.bx (lenA Try.prog 28 (get s.env 5))).bind fun r34 =>
  (pv r34.2 (binA Try.prog .lss 3 r34.1 (.v (Go.Value.int Go.IntKind.i64 13)))).bind fun r35 =>
  condA r35.1 ((pv r35.2 (litA Try.prog 28 1 [(0, (.v (Go.Value.int Go.IntKind.u8 0)))])).bind fun r36 =>
  (appA Try.prog n0 r36.2 28 (get (prune kp_r12_Put s.env) 5) r36.1).bind fun r37 =>
  some (.normal, ⟨((5, r37.1) :: (39, (r37.2.1 r35.1)) :: (prune kp_r12_Put (mapE r37.2.1 (prune kp_r12_Put s.env)))), r37.2.2⟩)) (some (.exit 0, ⟨((39, r35.1) :: (prune kp_r12_Put s.env)), r35.2⟩))
noncomputable def B_r12_Put_0 (_E : FnA) (_n n0 : Nat) (x5 x5_1 x19 x4 x13 x3 x2 x1 x0 : AV) (y : Bx) : Option (Ex × S) :=
  (pv y (lenA Try.prog 28 x5)).bind fun r30 =>
  (pv r30.2 (binA Try.prog .lss 3 r30.1 (.v (Go.Value.int Go.IntKind.i64 13)))).bind fun r31 =>
  condA r31.1 ((pv r31.2 (litA Try.prog 28 1 [(0, (.v (Go.Value.int Go.IntKind.u8 0)))])).bind fun r32 =>
  (appA Try.prog n0 r32.2 28 x5 r32.1).bind fun r33 =>
  some (.normal, ⟨[(5, r33.1), (39, (r33.2.1 r31.1)), (5, (r33.2.1 x5)), (5, (r33.2.1 x5_1)), (19, (r33.2.1 x19)), (4, (r33.2.1 x4)), (13, (r33.2.1 x13)), (3, (r33.2.1 x3)), (2, (r33.2.1 x2)), (1, (r33.2.1 x1)), (0, (r33.2.1 x0))], r33.2.2⟩)) (some (.exit 0, ⟨[(39, r31.1), (5, x5), (5, x5_1), (19, x19), (4, x4), (13, x13), (3, x3), (2, x2), (1, x1), (0, x0)], r31.2⟩))
theorem L_r12_Put_0_lit {E : FnA} {n n0 : Nat} {x5 x5_1 x19 x4 x13 x3 x2 x1 x0 : AV} {y : Bx} {Q : Ex → S → Prop} (h : Ends (B_r12_Put_0 E n n0 x5 x5_1 x19 x4 x13 x3 x2 x1 x0 y) Q) : Ends (L_r12_Put_0 E n n0 ⟨[(5, x5), (5, x5_1), (19, x19), (4, x4), (13, x13), (3, x3), (2, x2), (1, x1), (0, x0)], y⟩) Q := by
  rw [show L_r12_Put_0 E n n0 ⟨[(5, x5), (5, x5_1), (19, x19), (4, x4), (13, x13), (3, x3), (2, x2), (1, x1), (0, x0)], y⟩ = B_r12_Put_0 E n n0 x5 x5_1 x19 x4 x13 x3 x2 x1 x0 y by kernel_rfl]
  exact h
noncomputable def K_r12_Put_0 (_E : FnA) (_n _n0 : Nat) (t : S) : Option (Ex × S) :=
  some (.ret, ⟨((3, (.v (Go.Value.int Go.IntKind.i64 0))) :: (2, (get t.env 5)) :: (prune kp_r12_Put t.env)), t.bx⟩)
noncomputable def X_r12_Put_0 (_E : FnA) (_n _n0 : Nat) (i : Nat) (t : S) : Option (Ex × S) :=
  if i = 0 then some (.ret, ⟨((3, (.v (Go.Value.int Go.IntKind.i64 0))) :: (2, (get t.env 5)) :: (prune kp_r12_Put t.env)), t.bx⟩) else some (.exit i, ⟨t.env, t.bx⟩)
noncomputable def X_r12_Put_0_0 (_E : FnA) (_n _n0 : Nat) (x39 x5 x5_1 x19 x4 x13 x3 x2 x1 x0 : AV) (y : Bx) : Option (Ex × S) :=
  some (.ret, ⟨[(3, (.v (Go.Value.int Go.IntKind.i64 0))), (2, x5), (39, x39), (5, x5), (5, x5_1), (19, x19), (4, x4), (13, x13), (3, x3), (2, x2), (1, x1), (0, x0)], y⟩)
theorem X_r12_Put_0_0_lit {E : FnA} {n n0 : Nat} {x39 x5 x5_1 x19 x4 x13 x3 x2 x1 x0 : AV} {y : Bx} {Q : Ex → S → Prop} (h : Ends (X_r12_Put_0_0 E n n0 x39 x5 x5_1 x19 x4 x13 x3 x2 x1 x0 y) Q) : Ends (X_r12_Put_0 E n n0 0 ⟨[(39, x39), (5, x5), (5, x5_1), (19, x19), (4, x4), (13, x13), (3, x3), (2, x2), (1, x1), (0, x0)], y⟩) Q := by
  rw [show X_r12_Put_0 E n n0 0 ⟨[(39, x39), (5, x5), (5, x5_1), (19, x19), (4, x4), (13, x13), (3, x3), (2, x2), (1, x1), (0, x0)], y⟩ = X_r12_Put_0_0 E n n0 x39 x5 x5_1 x19 x4 x13 x3 x2 x1 x0 y by kernel_rfl]
  exact h
noncomputable def F_r12_Put (E : FnA) (n n0 : Nat) (a0 : AV) (bx : Bx) : Option (Ex × S) :=
  (boxA bx a0).bind fun r1 =>
  (some (AV.bsl (List.length r1.2) 0 0 0, r1.2 ++ [[]])).bind fun r2 =>
  (pv r2.2 (fieldAddrA Try.prog 23 r1.1 0)).bind fun r3 =>
  (pv r3.2 (loadA Try.prog 3 r3.2 r3.1)).bind fun r4 =>
  (pv r4.2 (binA Try.prog .lss 3 r4.1 (.v (Go.Value.int Go.IntKind.i64 1)))).bind fun r5 =>
  (gsel false r5.2 (pv r5.2 (fieldAddrA Try.prog 23 r1.1 0)) r5.1).bind fun r6 =>
  (gsel false r6.2 (pv r6.2 (loadA Try.prog 3 r6.2 r6.1)) r5.1).bind fun r7 =>
  (gsel false r7.2 (pv r7.2 (binA Try.prog .gtr 3 r7.1 (.v (Go.Value.int Go.IntKind.i64 65535)))) r5.1).bind fun r8 =>
  (pv r8.2 (pickA r5.1 (.v (Go.Value.bool true)) r8.1)).bind fun r9 =>
  condA r9.1 ((makeSliceA Try.prog r9.2 28 (.v (Go.Value.int Go.IntKind.i64 13)) (.v (Go.Value.int Go.IntKind.i64 13))).bind fun r10 =>
  some (.ret, ⟨[(3, (.v (Go.Value.int Go.IntKind.i64 2))), (2, r10.1), (13, r9.1), (3, (.v (Go.Value.int Go.IntKind.i64 0))), (2, r2.1), (1, r1.1), (0, a0)], r10.2⟩)) ((pv r9.2 (fieldAddrA Try.prog 23 r1.1 1)).bind fun r11 =>
  (pv r11.2 (loadA Try.prog 9 r11.2 r11.1)).bind fun r12 =>
  (callA E md_r12_Put r12.2 12 [r12.1]).bind fun r13 =>
  (pv r13.2 (binA Try.prog .neq 25 r13.1 (.v (Go.Value.int Go.IntKind.i64 0)))).bind fun r14 =>
  condA r14.1 ((makeSliceA Try.prog r14.2 28 (.v (Go.Value.int Go.IntKind.i64 13)) (.v (Go.Value.int Go.IntKind.i64 13))).bind fun r15 =>
  some (.ret, ⟨[(3, r13.1), (2, r15.1), (19, r14.1), (4, r13.1), (13, r9.1), (3, (.v (Go.Value.int Go.IntKind.i64 0))), (2, r2.1), (1, r1.1), (0, a0)], r15.2⟩)) ((pv r14.2 (fieldAddrA Try.prog 23 r1.1 0)).bind fun r16 =>
  (pv r16.2 (loadA Try.prog 3 r16.2 r16.1)).bind fun r17 =>
  (convA Try.prog r17.2 3 55 r17.1).bind fun r18 =>
  (callA E md_r12_Put r18.2 29 [r18.1]).bind fun r19 =>
  (pv r19.2 (fieldAddrA Try.prog 23 r1.1 1)).bind fun r20 =>
  (guardB (apartV (AV.bp (List.length r18.2) 0) r20.1 && true)).bind fun _ =>
  (pv r20.2 (loadA Try.prog 9 r20.2 r20.1)).bind fun r21 =>
  (pv r21.2 (lenA Try.prog 9 r21.1)).bind fun r22 =>
  (guardB (apartV (AV.bp (List.length r18.2) 0) (callAd [r22.1]) && true)).bind fun _ =>
  (convA Try.prog r22.2 3 5 r22.1).bind fun r23 =>
  (pv r23.2 (litA Try.prog 28 1 [(0, r23.1)])).bind fun r24 =>
  (appA Try.prog n0 r24.2 28 r19.1 r24.1).bind fun r25 =>
  (pv r25.2.2 (fieldAddrA Try.prog 23 (r25.2.1 r1.1) 1)).bind fun r26 =>
  (pv r26.2 (loadA Try.prog 9 r26.2 r26.1)).bind fun r27 =>
  (convA Try.prog r27.2 9 28 r27.1).bind fun r28 =>
  (appA Try.prog n0 r28.2 28 r25.1 r28.1).bind fun r29 =>
  exitA (iter ⟨[(5, r29.1), (5, (r29.2.1 r25.1)), (19, (r29.2.1 (r25.2.1 r14.1))), (4, (r29.2.1 (r25.2.1 r13.1))), (13, (r29.2.1 (r25.2.1 r9.1))), (3, (r29.2.1 (r25.2.1 (.v (Go.Value.int Go.IntKind.i64 0))))), (2, (r29.2.1 (r25.2.1 r2.1))), (1, (r29.2.1 (r25.2.1 r1.1))), (0, (r29.2.1 (r25.2.1 a0)))], r29.2.2⟩ (L_r12_Put_0 E n n0) n ⟨[(5, r29.1), (5, (r29.2.1 r25.1)), (19, (r29.2.1 (r25.2.1 r14.1))), (4, (r29.2.1 (r25.2.1 r13.1))), (13, (r29.2.1 (r25.2.1 r9.1))), (3, (r29.2.1 (r25.2.1 (.v (Go.Value.int Go.IntKind.i64 0))))), (2, (r29.2.1 (r25.2.1 r2.1))), (1, (r29.2.1 (r25.2.1 r1.1))), (0, (r29.2.1 (r25.2.1 a0)))], r29.2.2⟩) (K_r12_Put_0 E n n0) (X_r12_Put_0 E n n0)))
theorem c_r12_Put_eq : Try.f9.body = some c_r12_Put := by kernel_rfl
theorem d_r12_Put : drawsOk Try.prog md_r12_Put c_r12_Put = true := by kernel_rfl
theorem F_r12_Put_eq (E : FnA) (n n0 : Nat) (a0 : AV) (bx : Bx) : evK Try.prog md_r12_Put E 44 kp_r12_Put n n0 c_r12_Put ⟨[(0, a0)], bx⟩ (fun s => some (.normal, s)) (fun i s => some (.exit i, s)) = F_r12_Put E n n0 a0 bx := by kernel_rfl

theorem E_r12_Put (n : Nat) (a0 : AV) (bx : Bx) : evFn cx0 ext0 (n + 1) 9 [a0] bx = fin Try.prog [.tmp 2, .tmp 3] (F_r12_Put (evFn cx0 ext0 n) n bx.length a0 bx) := by
  rw [evFn_eq2 (cx := cx0) (c := c_r12_Put) rfl Try.func9 c_r12_Put_eq (of_decide_eq_true (by kernel_rfl)) d_r12_Put (of_decide_eq_true (by kernel_rfl))]
  exact congrArg (fin Try.prog [.tmp 2, .tmp 3]) (F_r12_Put_eq (evFn cx0 ext0 n) n bx.length a0 bx)

/-- scupper/scupperbase.SameBytes -/
def kp_base_SameBytes : Option (List Nat) := some [0, 1, 4]
noncomputable def c_base_SameBytes : Code := Try.f10.body.getD .skip
noncomputable def F_base_SameBytes (_E : FnA) (_n _n0 : Nat) (a0 a1 : AV) (bx : Bx) : Option (Ex × S) :=
  (convA Try.prog bx 28 9 a0).bind fun r1 =>
  (convA Try.prog r1.2 28 9 a1).bind fun r2 =>
  (pv r2.2 (binA Try.prog .eql 9 r1.1 r2.1)).bind fun r3 =>
  some (.ret, ⟨[(4, r3.1), (4, (.v (Go.Value.bool false))), (0, a0), (1, a1)], r3.2⟩)
theorem c_base_SameBytes_eq : Try.f10.body = some c_base_SameBytes := by kernel_rfl
theorem d_base_SameBytes : drawsOk Try.prog md0 c_base_SameBytes = true := by kernel_rfl
theorem F_base_SameBytes_eq (E : FnA) (n n0 : Nat) (a0 a1 : AV) (bx : Bx) : evK Try.prog md0 E 10 kp_base_SameBytes n n0 c_base_SameBytes ⟨[(0, a0), (1, a1)], bx⟩ (fun s => some (.normal, s)) (fun i s => some (.exit i, s)) = F_base_SameBytes E n n0 a0 a1 bx := by kernel_rfl

theorem E_base_SameBytes (n : Nat) (a0 a1 : AV) (bx : Bx) : evFn cx0 ext0 (n + 1) 10 [a0, a1] bx = fin Try.prog [.tmp 4] (F_base_SameBytes (evFn cx0 ext0 n) n bx.length a0 a1 bx) := by
  rw [evFn_eq2 (cx := cx0) (c := c_base_SameBytes) rfl Try.func10 c_base_SameBytes_eq (of_decide_eq_true (by kernel_rfl)) d_base_SameBytes (of_decide_eq_true (by kernel_rfl))]
  exact congrArg (fin Try.prog [.tmp 4]) (F_base_SameBytes_eq (evFn cx0 ext0 n) n bx.length a0 a1 bx)

/-- scupper/scupperref12.Check -/
def kp_r12_Check : Option (List Nat) := some [0, 2, 3, 19, 23, 41]
noncomputable def c_r12_Check : Code := Try.f12.body.getD .skip
noncomputable def L_r12_Check_0 (_E : FnA) (_n _n0 : Nat) (s : S) : Option (Ex × S) :=
  (pv s.bx (lenA Try.prog 9 (get s.env 0))).bind fun r28 =>
  (pv r28.2 (binA Try.prog .lss 3 (get s.env 3) r28.1)).bind fun r29 =>
  condA r29.1 ((pv r29.2 (indexA Try.prog 9 (get (prune kp_r12_Check s.env) 0) (get (prune kp_r12_Check s.env) 3))).bind fun r30 =>
  (pv r30.2 (binA Try.prog .lss 5 r30.1 (.v (Go.Value.int Go.IntKind.u8 33)))).bind fun r31 =>
  (gsel false r31.2 (some ((get (prune kp_r12_Check s.env) 0), r31.2)) r31.1).bind fun r32 =>
  (gsel false r32.2 (some ((get (prune kp_r12_Check s.env) 3), r32.2)) r31.1).bind fun r33 =>
  (gsel false r33.2 (pv r33.2 (indexA Try.prog 9 r32.1 r33.1)) r31.1).bind fun r34 =>
  (gsel false r34.2 (pv r34.2 (binA Try.prog .gtr 5 r34.1 (.v (Go.Value.int Go.IntKind.u8 126)))) r31.1).bind fun r35 =>
  (pv r35.2 (pickA r31.1 (.v (Go.Value.bool true)) r35.1)).bind fun r36 =>
  (gsel false r36.2 (some ((get (prune kp_r12_Check s.env) 0), r36.2)) r36.1).bind fun r37 =>
  (gsel false r37.2 (some ((get (prune kp_r12_Check s.env) 3), r37.2)) r36.1).bind fun r38 =>
  (gsel false r38.2 (pv r38.2 (indexA Try.prog 9 r37.1 r38.1)) r36.1).bind fun r39 =>
  (gsel false r39.2 (pv r39.2 (binA Try.prog .eql 5 r39.1 (.v (Go.Value.int Go.IntKind.u8 47)))) r36.1).bind fun r40 =>
  (pv r40.2 (pickA r36.1 (.v (Go.Value.bool true)) r40.1)).bind fun r41 =>
  condA r41.1 (some (.ret, ⟨((2, (.v (Go.Value.int Go.IntKind.i64 45))) :: (41, r41.1) :: (23, r29.1) :: (prune kp_r12_Check (prune kp_r12_Check (prune kp_r12_Check s.env)))), r41.2⟩)) ((pv r41.2 (binA Try.prog .add 3 (get (prune kp_r12_Check (prune kp_r12_Check s.env)) 3) (.v (Go.Value.int Go.IntKind.i64 1)))).bind fun r42 =>
  some (.normal, ⟨((3, r42.1) :: (41, r41.1) :: (23, r29.1) :: (prune kp_r12_Check (prune kp_r12_Check (prune kp_r12_Check s.env)))), r42.2⟩))) (some (.exit 0, ⟨((23, r29.1) :: (prune kp_r12_Check s.env)), r29.2⟩))
noncomputable def B_r12_Check_0 (_E : FnA) (_n _n0 : Nat) (x3 x19 x2 x0 : AV) (y : Bx) : Option (Ex × S) :=
  (pv y (lenA Try.prog 9 x0)).bind fun r13 =>
  (pv r13.2 (binA Try.prog .lss 3 x3 r13.1)).bind fun r14 =>
  condA r14.1 ((pv r14.2 (indexA Try.prog 9 x0 x3)).bind fun r15 =>
  (pv r15.2 (binA Try.prog .lss 5 r15.1 (.v (Go.Value.int Go.IntKind.u8 33)))).bind fun r16 =>
  (gsel false r16.2 (some (x0, r16.2)) r16.1).bind fun r17 =>
  (gsel false r17.2 (some (x3, r17.2)) r16.1).bind fun r18 =>
  (gsel false r18.2 (pv r18.2 (indexA Try.prog 9 r17.1 r18.1)) r16.1).bind fun r19 =>
  (gsel false r19.2 (pv r19.2 (binA Try.prog .gtr 5 r19.1 (.v (Go.Value.int Go.IntKind.u8 126)))) r16.1).bind fun r20 =>
  (pv r20.2 (pickA r16.1 (.v (Go.Value.bool true)) r20.1)).bind fun r21 =>
  (gsel false r21.2 (some (x0, r21.2)) r21.1).bind fun r22 =>
  (gsel false r22.2 (some (x3, r22.2)) r21.1).bind fun r23 =>
  (gsel false r23.2 (pv r23.2 (indexA Try.prog 9 r22.1 r23.1)) r21.1).bind fun r24 =>
  (gsel false r24.2 (pv r24.2 (binA Try.prog .eql 5 r24.1 (.v (Go.Value.int Go.IntKind.u8 47)))) r21.1).bind fun r25 =>
  (pv r25.2 (pickA r21.1 (.v (Go.Value.bool true)) r25.1)).bind fun r26 =>
  condA r26.1 (some (.ret, ⟨[(2, (.v (Go.Value.int Go.IntKind.i64 45))), (41, r26.1), (23, r14.1), (3, x3), (19, x19), (2, x2), (0, x0)], r26.2⟩)) ((pv r26.2 (binA Try.prog .add 3 x3 (.v (Go.Value.int Go.IntKind.i64 1)))).bind fun r27 =>
  some (.normal, ⟨[(3, r27.1), (41, r26.1), (23, r14.1), (3, x3), (19, x19), (2, x2), (0, x0)], r27.2⟩))) (some (.exit 0, ⟨[(23, r14.1), (3, x3), (19, x19), (2, x2), (0, x0)], r14.2⟩))
theorem L_r12_Check_0_lit {E : FnA} {n n0 : Nat} {x3 x19 x2 x0 : AV} {y : Bx} {Q : Ex → S → Prop} (h : Ends (B_r12_Check_0 E n n0 x3 x19 x2 x0 y) Q) : Ends (L_r12_Check_0 E n n0 ⟨[(3, x3), (19, x19), (2, x2), (0, x0)], y⟩) Q := by
  rw [show L_r12_Check_0 E n n0 ⟨[(3, x3), (19, x19), (2, x2), (0, x0)], y⟩ = B_r12_Check_0 E n n0 x3 x19 x2 x0 y by kernel_rfl]
  exact h
noncomputable def K_r12_Check_0 (_E : FnA) (_n _n0 : Nat) (t : S) : Option (Ex × S) :=
  some (.ret, ⟨((2, (.v (Go.Value.int Go.IntKind.i64 0))) :: (prune kp_r12_Check t.env)), t.bx⟩)
noncomputable def X_r12_Check_0 (_E : FnA) (_n _n0 : Nat) (i : Nat) (t : S) : Option (Ex × S) :=
  if i = 0 then some (.ret, ⟨((2, (.v (Go.Value.int Go.IntKind.i64 0))) :: (prune kp_r12_Check t.env)), t.bx⟩) else some (.exit i, ⟨t.env, t.bx⟩)
noncomputable def X_r12_Check_0_0 (_E : FnA) (_n _n0 : Nat) (x23 x3 x19 x2 x0 : AV) (y : Bx) : Option (Ex × S) :=
  some (.ret, ⟨[(2, (.v (Go.Value.int Go.IntKind.i64 0))), (23, x23), (3, x3), (19, x19), (2, x2), (0, x0)], y⟩)
theorem X_r12_Check_0_0_lit {E : FnA} {n n0 : Nat} {x23 x3 x19 x2 x0 : AV} {y : Bx} {Q : Ex → S → Prop} (h : Ends (X_r12_Check_0_0 E n n0 x23 x3 x19 x2 x0 y) Q) : Ends (X_r12_Check_0 E n n0 0 ⟨[(23, x23), (3, x3), (19, x19), (2, x2), (0, x0)], y⟩) Q := by
  rw [show X_r12_Check_0 E n n0 0 ⟨[(23, x23), (3, x3), (19, x19), (2, x2), (0, x0)], y⟩ = X_r12_Check_0_0 E n n0 x23 x3 x19 x2 x0 y by kernel_rfl]
  exact h
noncomputable def F_r12_Check (E : FnA) (n n0 : Nat) (a0 : AV) (bx : Bx) : Option (Ex × S) :=
  (pv bx (lenA Try.prog 9 a0)).bind fun r1 =>
  (pv r1.2 (binA Try.prog .lss 3 r1.1 (.v (Go.Value.int Go.IntKind.i64 1)))).bind fun r2 =>
  (gsel false r2.2 (some (a0, r2.2)) r2.1).bind fun r3 =>
  (gsel false r3.2 (pv r3.2 (lenA Try.prog 9 r3.1)) r2.1).bind fun r4 =>
  (gsel false r4.2 (pv r4.2 (binA Try.prog .gtr 3 r4.1 (.v (Go.Value.int Go.IntKind.i64 10)))) r2.1).bind fun r5 =>
  (pv r5.2 (pickA r2.1 (.v (Go.Value.bool true)) r5.1)).bind fun r6 =>
  (gsel false r6.2 (some (a0, r6.2)) r6.1).bind fun r7 =>
  (gsel false r7.2 (pv r7.2 (binA Try.prog .eql 9 r7.1 (.v (Go.Value.string (ByteArray.mk #[46]))))) r6.1).bind fun r8 =>
  (pv r8.2 (pickA r6.1 (.v (Go.Value.bool true)) r8.1)).bind fun r9 =>
  (gsel false r9.2 (some (a0, r9.2)) r9.1).bind fun r10 =>
  (gsel false r10.2 (pv r10.2 (binA Try.prog .eql 9 r10.1 (.v (Go.Value.string (ByteArray.mk #[46, 46]))))) r9.1).bind fun r11 =>
  (pv r11.2 (pickA r9.1 (.v (Go.Value.bool true)) r11.1)).bind fun r12 =>
  condA r12.1 (some (.ret, ⟨[(2, (.v (Go.Value.int Go.IntKind.i64 45))), (19, r12.1), (2, (.v (Go.Value.int Go.IntKind.i64 0))), (0, a0)], r12.2⟩)) (exitA (iter ⟨[(3, (.v (Go.Value.int Go.IntKind.i64 0))), (19, r12.1), (2, (.v (Go.Value.int Go.IntKind.i64 0))), (0, a0)], r12.2⟩ (L_r12_Check_0 E n n0) n ⟨[(3, (.v (Go.Value.int Go.IntKind.i64 0))), (19, r12.1), (2, (.v (Go.Value.int Go.IntKind.i64 0))), (0, a0)], r12.2⟩) (K_r12_Check_0 E n n0) (X_r12_Check_0 E n n0))
theorem c_r12_Check_eq : Try.f12.body = some c_r12_Check := by kernel_rfl
theorem d_r12_Check : drawsOk Try.prog md0 c_r12_Check = true := by kernel_rfl
theorem F_r12_Check_eq (E : FnA) (n n0 : Nat) (a0 : AV) (bx : Bx) : evK Try.prog md0 E 42 kp_r12_Check n n0 c_r12_Check ⟨[(0, a0)], bx⟩ (fun s => some (.normal, s)) (fun i s => some (.exit i, s)) = F_r12_Check E n n0 a0 bx := by kernel_rfl

theorem E_r12_Check (n : Nat) (a0 : AV) (bx : Bx) : evFn cx0 ext0 (n + 1) 12 [a0] bx = fin Try.prog [.tmp 2] (F_r12_Check (evFn cx0 ext0 n) n bx.length a0 bx) := by
  rw [evFn_eq2 (cx := cx0) (c := c_r12_Check) rfl Try.func12 c_r12_Check_eq (of_decide_eq_true (by kernel_rfl)) d_r12_Check (of_decide_eq_true (by kernel_rfl))]
  exact congrArg (fin Try.prog [.tmp 2]) (F_r12_Check_eq (evFn cx0 ext0 n) n bx.length a0 bx)

/-- scupper/scupperlaw12.works -/
def kp_l12_works : Option (List Nat) := some [0, 1, 2, 3, 4]
noncomputable def c_l12_works : Code := Try.f13.body.getD .skip
noncomputable def F_l12_works (E : FnA) (_n _n0 : Nat) (bx : Bx) : Option (Ex × S) :=
  (pv bx (buildA Try.prog 23 [(0, (.v (Go.Value.int Go.IntKind.i64 5))), (1, (.v (Go.Value.string (ByteArray.mk #[97, 98]))))])).bind fun r1 =>
  (callA E md0 r1.2 8 [r1.1]).bind fun r2 =>
  (pv r2.2 (tupA r2.1 0)).bind fun r3 =>
  (pv r3.2 (tupA r2.1 1)).bind fun r4 =>
  (allocA Try.prog r4.2 24).bind fun r5 =>
  (stA Try.prog 24 r5.2 r5.1 r3.1).bind fun r6 =>
  (pv r6.2 (buildA Try.prog 37 [])).bind fun r7 =>
  (pv r7.2 (buildA Try.prog 23 [(0, (.v (Go.Value.int Go.IntKind.i64 5))), (1, (.v (Go.Value.string (ByteArray.mk #[97, 98]))))])).bind fun r8 =>
  (callA E md0 r8.2 15 [r7.1, (.v (Go.Value.int Go.IntKind.i64 1)), r8.1]).bind fun r9 =>
  (pv r9.2 (tupA r9.1 0)).bind fun r10 =>
  (pv r10.2 (tupA r9.1 1)).bind fun r11 =>
  (allocA Try.prog r11.2 37).bind fun r12 =>
  (stA Try.prog 37 r12.2 r12.1 r10.1).bind fun r13 =>
  (pv r13.2 (binA Try.prog .eql 25 r4.1 (.v (Go.Value.int Go.IntKind.i64 0)))).bind fun r14 =>
  (gsel true r14.2 (pv r14.2 (indexAddrA Try.prog 24 r5.1 (.v (Go.Value.int Go.IntKind.i64 0)))) r14.1).bind fun r15 =>
  (gsel true r15.2 (pv r15.2 (loadA Try.prog 5 r15.2 r15.1)) r14.1).bind fun r16 =>
  (gsel true r16.2 (pv r16.2 (binA Try.prog .eql 5 r16.1 (.v (Go.Value.int Go.IntKind.u8 5)))) r14.1).bind fun r17 =>
  (pv r17.2 (pickA r14.1 r17.1 (.v (Go.Value.bool false)))).bind fun r18 =>
  (gsel true r18.2 (pv r18.2 (indexAddrA Try.prog 24 r5.1 (.v (Go.Value.int Go.IntKind.i64 2)))) r18.1).bind fun r19 =>
  (gsel true r19.2 (pv r19.2 (loadA Try.prog 5 r19.2 r19.1)) r18.1).bind fun r20 =>
  (gsel true r20.2 (pv r20.2 (binA Try.prog .eql 5 r20.1 (.v (Go.Value.int Go.IntKind.u8 2)))) r18.1).bind fun r21 =>
  (pv r21.2 (pickA r18.1 r21.1 (.v (Go.Value.bool false)))).bind fun r22 =>
  (gsel true r22.2 (pv r22.2 (indexAddrA Try.prog 24 r5.1 (.v (Go.Value.int Go.IntKind.i64 3)))) r22.1).bind fun r23 =>
  (gsel true r23.2 (pv r23.2 (loadA Try.prog 5 r23.2 r23.1)) r22.1).bind fun r24 =>
  (gsel true r24.2 (pv r24.2 (binA Try.prog .eql 5 r24.1 (.v (Go.Value.int Go.IntKind.u8 97)))) r22.1).bind fun r25 =>
  (pv r25.2 (pickA r22.1 r25.1 (.v (Go.Value.bool false)))).bind fun r26 =>
  (gsel true r26.2 (pv r26.2 (indexAddrA Try.prog 24 r5.1 (.v (Go.Value.int Go.IntKind.i64 5)))) r26.1).bind fun r27 =>
  (gsel true r27.2 (pv r27.2 (loadA Try.prog 5 r27.2 r27.1)) r26.1).bind fun r28 =>
  (gsel true r28.2 (pv r28.2 (binA Try.prog .eql 5 r28.1 (.v (Go.Value.int Go.IntKind.u8 0)))) r26.1).bind fun r29 =>
  (pv r29.2 (pickA r26.1 r29.1 (.v (Go.Value.bool false)))).bind fun r30 =>
  (gsel true r30.2 (some (r11.1, r30.2)) r30.1).bind fun r31 =>
  (gsel true r31.2 (pv r31.2 (binA Try.prog .eql 25 r31.1 (.v (Go.Value.int Go.IntKind.i64 0)))) r30.1).bind fun r32 =>
  (pv r32.2 (pickA r30.1 r32.1 (.v (Go.Value.bool false)))).bind fun r33 =>
  (gsel true r33.2 (pv r33.2 (loadA Try.prog 37 r33.2 r12.1)) r33.1).bind fun r34 =>
  (gsel true r34.2 (callA E md0 r34.2 20 [r34.1, (.v (Go.Value.string (ByteArray.mk #[97, 98])))]) r33.1).bind fun r35 =>
  (gsel true r35.2 (pv r35.2 (binA Try.prog .eql 3 r35.1 (.v (Go.Value.int Go.IntKind.i64 1)))) r33.1).bind fun r36 =>
  (pv r36.2 (pickA r33.1 r36.1 (.v (Go.Value.bool false)))).bind fun r37 =>
  (gsel true r37.2 (pv r37.2 (loadA Try.prog 37 r37.2 r12.1)) r37.1).bind fun r38 =>
  (gsel true r38.2 (callA E md0 r38.2 22 [r38.1]) r37.1).bind fun r39 =>
  (gsel true r39.2 (pv r39.2 (binA Try.prog .eql 3 r39.1 (.v (Go.Value.int Go.IntKind.i64 0)))) r37.1).bind fun r40 =>
  (pv r40.2 (pickA r37.1 r40.1 (.v (Go.Value.bool false)))).bind fun r41 =>
  some (.ret, ⟨[(0, r41.1), (4, r11.1), (3, r12.1), (2, r4.1), (1, r5.1), (0, (.v (Go.Value.bool false)))], r41.2⟩)
theorem c_l12_works_eq : Try.f13.body = some c_l12_works := by kernel_rfl
theorem d_l12_works : drawsOk Try.prog md0 c_l12_works = true := by kernel_rfl
theorem F_l12_works_eq (E : FnA) (n n0 : Nat) (bx : Bx) : evK Try.prog md0 E 52 kp_l12_works n n0 c_l12_works ⟨[], bx⟩ (fun s => some (.normal, s)) (fun i s => some (.exit i, s)) = F_l12_works E n n0  bx := by kernel_rfl

theorem E_l12_works (n : Nat) (bx : Bx) : evFn cx0 ext0 (n + 1) 13 [] bx = fin Try.prog [.tmp 0] (F_l12_works (evFn cx0 ext0 n) n bx.length  bx) := by
  rw [evFn_eq2 (cx := cx0) (c := c_l12_works) rfl Try.func13 c_l12_works_eq (of_decide_eq_true (by kernel_rfl)) d_l12_works (of_decide_eq_true (by kernel_rfl))]
  exact congrArg (fin Try.prog [.tmp 0]) (F_l12_works_eq (evFn cx0 ext0 n) n bx.length  bx)

/-- scupper/scupperbase.Among -/
def kp_base_Among : Option (List Nat) := some [0, 1, 4, 6]
noncomputable def c_base_Among : Code := Try.f14.body.getD .skip
noncomputable def F_base_Among (_E : FnA) (_n _n0 : Nat) (a0 a1 : AV) (bx : Bx) : Option (Ex × S) :=
  (pv bx (binA Try.prog .lss 3 a1 (.v (Go.Value.int Go.IntKind.i64 1)))).bind fun r1 =>
  condA r1.1 (some (.ret, ⟨[(4, (.v (Go.Value.int Go.IntKind.i64 0))), (6, r1.1), (4, (.v (Go.Value.int Go.IntKind.i64 0))), (0, a0), (1, a1)], r1.2⟩)) ((convA Try.prog r1.2 3 57 a0).bind fun r2 =>
  (convA Try.prog r2.2 3 57 a1).bind fun r3 =>
  (pv r3.2 (binA Try.prog .rem 57 r2.1 r3.1)).bind fun r4 =>
  (convA Try.prog r4.2 57 3 r4.1).bind fun r5 =>
  some (.ret, ⟨[(4, r5.1), (6, r1.1), (4, (.v (Go.Value.int Go.IntKind.i64 0))), (0, a0), (1, a1)], r5.2⟩))
theorem c_base_Among_eq : Try.f14.body = some c_base_Among := by kernel_rfl
theorem d_base_Among : drawsOk Try.prog md0 c_base_Among = true := by kernel_rfl
theorem F_base_Among_eq (E : FnA) (n n0 : Nat) (a0 a1 : AV) (bx : Bx) : evK Try.prog md0 E 13 kp_base_Among n n0 c_base_Among ⟨[(0, a0), (1, a1)], bx⟩ (fun s => some (.normal, s)) (fun i s => some (.exit i, s)) = F_base_Among E n n0 a0 a1 bx := by kernel_rfl

theorem E_base_Among (n : Nat) (a0 a1 : AV) (bx : Bx) : evFn cx0 ext0 (n + 1) 14 [a0, a1] bx = fin Try.prog [.tmp 4] (F_base_Among (evFn cx0 ext0 n) n bx.length a0 a1 bx) := by
  rw [evFn_eq2 (cx := cx0) (c := c_base_Among) rfl Try.func14 c_base_Among_eq (of_decide_eq_true (by kernel_rfl)) d_base_Among (of_decide_eq_true (by kernel_rfl))]
  exact congrArg (fin Try.prog [.tmp 4]) (F_base_Among_eq (evFn cx0 ext0 n) n bx.length a0 a1 bx)

/-- scupper/dirent.With -/
def kp_dirent_With : Option (List Nat) := some [0, 1, 2, 3, 5, 6, 7, 8, 9, 12, 20]
noncomputable def c_dirent_With : Code := Try.f15.body.getD .skip
noncomputable def F_dirent_With (E : FnA) (_n _n0 : Nat) (a0 a1 a2 : AV) (bx : Bx) : Option (Ex × S) :=
  (boxA bx a0).bind fun r1 =>
  (boxA r1.2 a2).bind fun r2 =>
  (allocA Try.prog r2.2 37).bind fun r3 =>
  (callA E md0 r3.2 30 [a1]).bind fun r4 =>
  (pv r4.2 (unA .not r4.1)).bind fun r5 =>
  condA r5.1 ((pv r5.2 (buildA Try.prog 37 [])).bind fun r6 =>
  (stA Try.prog 37 r6.2 r3.1 r6.1).bind fun r7 =>
  some (.ret, ⟨[(7, (.v (Go.Value.int Go.IntKind.i64 2))), (12, r5.1), (7, (.v (Go.Value.int Go.IntKind.i64 0))), (6, r3.1), (5, r2.1), (3, r1.1), (0, a0), (1, a1), (2, a2)], r7.2⟩)) ((pv r5.2 (loadA Try.prog 23 r5.2 r2.1)).bind fun r8 =>
  (callA E md0 r8.2 8 [r8.1]).bind fun r9 =>
  (pv r9.2 (tupA r9.1 0)).bind fun r10 =>
  (pv r10.2 (tupA r9.1 1)).bind fun r11 =>
  (allocA Try.prog r11.2 24).bind fun r12 =>
  (stA Try.prog 24 r12.2 r12.1 r10.1).bind fun r13 =>
  (pv r13.2 (binA Try.prog .neq 25 r11.1 (.v (Go.Value.int Go.IntKind.i64 0)))).bind fun r14 =>
  condA r14.1 ((pv r14.2 (buildA Try.prog 37 [])).bind fun r15 =>
  (stA Try.prog 37 r15.2 r3.1 r15.1).bind fun r16 =>
  some (.ret, ⟨[(7, r11.1), (20, r14.1), (9, r11.1), (8, r12.1), (12, r5.1), (7, (.v (Go.Value.int Go.IntKind.i64 0))), (6, r3.1), (5, r2.1), (3, r1.1), (0, a0), (1, a1), (2, a2)], r16.2⟩)) ((pv r14.2 (binA Try.prog .mul 3 (.v (Go.Value.int Go.IntKind.i64 13)) a1)).bind fun r17 =>
  (pv r17.2 (sliceA Try.prog r17.2 37 r1.1 (some r17.1) none none)).bind fun r18 =>
  (pv r18.2 (sliceA Try.prog r18.2 24 r12.1 none none none)).bind fun r19 =>
  (copyA Try.prog r19.2 28 r18.1 r19.1).bind fun r20 =>
  (pv r20.2 (loadA Try.prog 37 r20.2 r1.1)).bind fun r21 =>
  (stA Try.prog 37 r21.2 r3.1 r21.1).bind fun r22 =>
  some (.ret, ⟨[(7, r11.1), (20, r14.1), (9, r11.1), (8, r12.1), (12, r5.1), (7, (.v (Go.Value.int Go.IntKind.i64 0))), (6, r3.1), (5, r2.1), (3, r1.1), (0, a0), (1, a1), (2, a2)], r22.2⟩)))
theorem c_dirent_With_eq : Try.f15.body = some c_dirent_With := by kernel_rfl
theorem d_dirent_With : drawsOk Try.prog md0 c_dirent_With = true := by kernel_rfl
theorem F_dirent_With_eq (E : FnA) (n n0 : Nat) (a0 a1 a2 : AV) (bx : Bx) : evK Try.prog md0 E 30 kp_dirent_With n n0 c_dirent_With ⟨[(0, a0), (1, a1), (2, a2)], bx⟩ (fun s => some (.normal, s)) (fun i s => some (.exit i, s)) = F_dirent_With E n n0 a0 a1 a2 bx := by kernel_rfl

theorem E_dirent_With (n : Nat) (a0 a1 a2 : AV) (bx : Bx) : evFn cx0 ext0 (n + 1) 15 [a0, a1, a2] bx = fin Try.prog [.cell 6 37, .tmp 7] (F_dirent_With (evFn cx0 ext0 n) n bx.length a0 a1 a2 bx) := by
  rw [evFn_eq2 (cx := cx0) (c := c_dirent_With) rfl Try.func15 c_dirent_With_eq (of_decide_eq_true (by kernel_rfl)) d_dirent_With (of_decide_eq_true (by kernel_rfl))]
  exact congrArg (fin Try.prog [.cell 6 37, .tmp 7]) (F_dirent_With_eq (evFn cx0 ext0 n) n bx.length a0 a1 a2 bx)

/-- scupper/dirent.Without -/
def kp_dirent_Without : Option (List Nat) := some [0, 1, 2, 4, 5, 8]
noncomputable def c_dirent_Without : Code := Try.f16.body.getD .skip
noncomputable def F_dirent_Without (E : FnA) (_n _n0 : Nat) (a0 a1 : AV) (bx : Bx) : Option (Ex × S) :=
  (boxA bx a0).bind fun r1 =>
  (allocA Try.prog r1.2 37).bind fun r2 =>
  (callA E md0 r2.2 30 [a1]).bind fun r3 =>
  (pv r3.2 (unA .not r3.1)).bind fun r4 =>
  condA r4.1 ((pv r4.2 (buildA Try.prog 37 [])).bind fun r5 =>
  (stA Try.prog 37 r5.2 r2.1 r5.1).bind fun r6 =>
  some (.ret, ⟨[(5, (.v (Go.Value.int Go.IntKind.i64 2))), (8, r4.1), (5, (.v (Go.Value.int Go.IntKind.i64 0))), (4, r2.1), (2, r1.1), (0, a0), (1, a1)], r6.2⟩)) ((pv r4.2 (binA Try.prog .mul 3 (.v (Go.Value.int Go.IntKind.i64 13)) a1)).bind fun r7 =>
  (pv r7.2 (binA Try.prog .mul 3 (.v (Go.Value.int Go.IntKind.i64 13)) a1)).bind fun r8 =>
  (pv r8.2 (binA Try.prog .add 3 r8.1 (.v (Go.Value.int Go.IntKind.i64 13)))).bind fun r9 =>
  (pv r9.2 (sliceA Try.prog r9.2 37 r1.1 (some r7.1) (some r9.1) none)).bind fun r10 =>
  (clrA Try.prog 28 r10.2 r10.1).bind fun r11 =>
  (pv r11.2 (loadA Try.prog 37 r11.2 r1.1)).bind fun r12 =>
  (stA Try.prog 37 r12.2 r2.1 r12.1).bind fun r13 =>
  some (.ret, ⟨[(5, (.v (Go.Value.int Go.IntKind.i64 0))), (8, r4.1), (5, (.v (Go.Value.int Go.IntKind.i64 0))), (4, r2.1), (2, r1.1), (0, a0), (1, a1)], r13.2⟩))
theorem c_dirent_Without_eq : Try.f16.body = some c_dirent_Without := by kernel_rfl
theorem d_dirent_Without : drawsOk Try.prog md0 c_dirent_Without = true := by kernel_rfl
theorem F_dirent_Without_eq (E : FnA) (n n0 : Nat) (a0 a1 : AV) (bx : Bx) : evK Try.prog md0 E 17 kp_dirent_Without n n0 c_dirent_Without ⟨[(0, a0), (1, a1)], bx⟩ (fun s => some (.normal, s)) (fun i s => some (.exit i, s)) = F_dirent_Without E n n0 a0 a1 bx := by kernel_rfl

theorem E_dirent_Without (n : Nat) (a0 a1 : AV) (bx : Bx) : evFn cx0 ext0 (n + 1) 16 [a0, a1] bx = fin Try.prog [.cell 4 37, .tmp 5] (F_dirent_Without (evFn cx0 ext0 n) n bx.length a0 a1 bx) := by
  rw [evFn_eq2 (cx := cx0) (c := c_dirent_Without) rfl Try.func16 c_dirent_Without_eq (of_decide_eq_true (by kernel_rfl)) d_dirent_Without (of_decide_eq_true (by kernel_rfl))]
  exact congrArg (fin Try.prog [.cell 4 37, .tmp 5]) (F_dirent_Without_eq (evFn cx0 ext0 n) n bx.length a0 a1 bx)

/-- scupper/dirent.At -/
def kp_dirent_At : Option (List Nat) := some [0, 1, 2, 4, 5, 6, 7, 8, 11]
noncomputable def c_dirent_At : Code := Try.f17.body.getD .skip
noncomputable def F_dirent_At (E : FnA) (_n _n0 : Nat) (a0 a1 : AV) (bx : Bx) : Option (Ex × S) :=
  (boxA bx a0).bind fun r1 =>
  (allocA Try.prog r1.2 23).bind fun r2 =>
  (callA E md0 r2.2 30 [a1]).bind fun r3 =>
  (pv r3.2 (unA .not r3.1)).bind fun r4 =>
  condA r4.1 ((pv r4.2 (buildA Try.prog 23 [])).bind fun r5 =>
  (stA Try.prog 23 r5.2 r2.1 r5.1).bind fun r6 =>
  some (.ret, ⟨[(6, (.v (Go.Value.int Go.IntKind.i64 2))), (5, (.v (Go.Value.int Go.IntKind.i64 0))), (11, r4.1), (6, (.v (Go.Value.int Go.IntKind.i64 0))), (5, (.v (Go.Value.int Go.IntKind.i64 0))), (4, r2.1), (2, r1.1), (0, a0), (1, a1)], r6.2⟩)) ((pv r4.2 (binA Try.prog .mul 3 (.v (Go.Value.int Go.IntKind.i64 13)) a1)).bind fun r7 =>
  (pv r7.2 (sliceA Try.prog r7.2 37 r1.1 (some r7.1) none none)).bind fun r8 =>
  (pv r8.2 (arrPtrA Try.prog 24 r8.1)).bind fun r9 =>
  (pv r9.2 (loadA Try.prog 24 r9.2 r9.1)).bind fun r10 =>
  (callA E md0 r10.2 31 [r10.1]).bind fun r11 =>
  (pv r11.2 (tupA r11.1 0)).bind fun r12 =>
  (pv r12.2 (tupA r11.1 1)).bind fun r13 =>
  (allocA Try.prog r13.2 23).bind fun r14 =>
  (stA Try.prog 23 r14.2 r14.1 r12.1).bind fun r15 =>
  (pv r15.2 (loadA Try.prog 23 r15.2 r14.1)).bind fun r16 =>
  (stA Try.prog 23 r16.2 r2.1 r16.1).bind fun r17 =>
  some (.ret, ⟨[(6, (.v (Go.Value.int Go.IntKind.i64 0))), (5, r13.1), (8, r13.1), (7, r14.1), (11, r4.1), (6, (.v (Go.Value.int Go.IntKind.i64 0))), (5, (.v (Go.Value.int Go.IntKind.i64 0))), (4, r2.1), (2, r1.1), (0, a0), (1, a1)], r17.2⟩))
theorem c_dirent_At_eq : Try.f17.body = some c_dirent_At := by kernel_rfl
theorem d_dirent_At : drawsOk Try.prog md0 c_dirent_At = true := by kernel_rfl
theorem F_dirent_At_eq (E : FnA) (n n0 : Nat) (a0 a1 : AV) (bx : Bx) : evK Try.prog md0 E 24 kp_dirent_At n n0 c_dirent_At ⟨[(0, a0), (1, a1)], bx⟩ (fun s => some (.normal, s)) (fun i s => some (.exit i, s)) = F_dirent_At E n n0 a0 a1 bx := by kernel_rfl

theorem E_dirent_At (n : Nat) (a0 a1 : AV) (bx : Bx) : evFn cx0 ext0 (n + 1) 17 [a0, a1] bx = fin Try.prog [.cell 4 23, .tmp 5, .tmp 6] (F_dirent_At (evFn cx0 ext0 n) n bx.length a0 a1 bx) := by
  rw [evFn_eq2 (cx := cx0) (c := c_dirent_At) rfl Try.func17 c_dirent_At_eq (of_decide_eq_true (by kernel_rfl)) d_dirent_At (of_decide_eq_true (by kernel_rfl))]
  exact congrArg (fin Try.prog [.cell 4 23, .tmp 5, .tmp 6]) (F_dirent_At_eq (evFn cx0 ext0 n) n bx.length a0 a1 bx)

/-- scupper/dirent.All -/
def kp_dirent_All : Option (List Nat) := some [0, 1, 2, 3, 4, 5, 6, 8, 9, 19]
noncomputable def c_dirent_All : Code := Try.f18.body.getD .skip
noncomputable def L_dirent_All_0 (E : FnA) (_n n0 : Nat) (s : S) : Option (Ex × S) :=
  (pv s.bx (binA Try.prog .lss 3 (get s.env 8) (.v (Go.Value.int Go.IntKind.i64 4)))).bind fun r18 =>
  condA r18.1 ((pv r18.2 (loadA Try.prog 37 r18.2 (get (prune kp_dirent_All (prune kp_dirent_All s.env)) 1))).bind fun r19 =>
  (callA E md0 r19.2 17 [r19.1, (get (prune kp_dirent_All s.env) 8)]).bind fun r20 =>
  (pv r20.2 (tupA r20.1 0)).bind fun r21 =>
  (pv r21.2 (tupA r20.1 1)).bind fun r22 =>
  (pv r22.2 (tupA r20.1 2)).bind fun r23 =>
  (allocA Try.prog r23.2 23).bind fun r24 =>
  (stA Try.prog 23 r24.2 r24.1 r21.1).bind fun r25 =>
  (pv r25.2 (binA Try.prog .eql 3 r22.1 (.v (Go.Value.int Go.IntKind.i64 1)))).bind fun r26 =>
  condA r26.1 ((pv r26.2 (loadA Try.prog 23 r26.2 r24.1)).bind fun r27 =>
  (buildSliceA Try.prog r27.2 45 1 [(0, r27.1)]).bind fun r28 =>
  (appA Try.prog n0 r28.2 45 (get (prune kp_dirent_All (prune kp_dirent_All (prune kp_dirent_All (prune kp_dirent_All s.env)))) 3) r28.1).bind fun r29 =>
  (pv r29.2.2 (binA Try.prog .add 3 (get (prune kp_dirent_All (mapE r29.2.1 (prune kp_dirent_All (prune kp_dirent_All (prune kp_dirent_All (prune kp_dirent_All s.env)))))) 8) (.v (Go.Value.int Go.IntKind.i64 1)))).bind fun r30 =>
  some (.normal, ⟨((8, r30.1) :: (3, r29.1) :: (19, (r29.2.1 r26.1)) :: (6, (r29.2.1 r22.1)) :: (5, (r29.2.1 r24.1)) :: (4, (r29.2.1 (get (prune kp_dirent_All s.env) 8))) :: (9, (r29.2.1 r18.1)) :: (prune kp_dirent_All (prune kp_dirent_All (mapE r29.2.1 (prune kp_dirent_All (prune kp_dirent_All (prune kp_dirent_All (prune kp_dirent_All s.env)))))))), r30.2⟩)) ((pv r26.2 (binA Try.prog .add 3 (get (prune kp_dirent_All (prune kp_dirent_All (prune kp_dirent_All (prune kp_dirent_All s.env)))) 8) (.v (Go.Value.int Go.IntKind.i64 1)))).bind fun r31 =>
  some (.normal, ⟨((8, r31.1) :: (19, r26.1) :: (6, r22.1) :: (5, r24.1) :: (4, (get (prune kp_dirent_All s.env) 8)) :: (9, r18.1) :: (prune kp_dirent_All (prune kp_dirent_All (prune kp_dirent_All (prune kp_dirent_All (prune kp_dirent_All s.env)))))), r31.2⟩))) (some (.exit 0, ⟨((9, r18.1) :: (prune kp_dirent_All s.env)), r18.2⟩))
noncomputable def B_dirent_All_0 (E : FnA) (_n n0 : Nat) (x8 x3 x2 x1 x0 : AV) (y : Bx) : Option (Ex × S) :=
  (pv y (binA Try.prog .lss 3 x8 (.v (Go.Value.int Go.IntKind.i64 4)))).bind fun r4 =>
  condA r4.1 ((pv r4.2 (loadA Try.prog 37 r4.2 x1)).bind fun r5 =>
  (callA E md0 r5.2 17 [r5.1, x8]).bind fun r6 =>
  (pv r6.2 (tupA r6.1 0)).bind fun r7 =>
  (pv r7.2 (tupA r6.1 1)).bind fun r8 =>
  (pv r8.2 (tupA r6.1 2)).bind fun r9 =>
  (allocA Try.prog r9.2 23).bind fun r10 =>
  (stA Try.prog 23 r10.2 r10.1 r7.1).bind fun r11 =>
  (pv r11.2 (binA Try.prog .eql 3 r8.1 (.v (Go.Value.int Go.IntKind.i64 1)))).bind fun r12 =>
  condA r12.1 ((pv r12.2 (loadA Try.prog 23 r12.2 r10.1)).bind fun r13 =>
  (buildSliceA Try.prog r13.2 45 1 [(0, r13.1)]).bind fun r14 =>
  (appA Try.prog n0 r14.2 45 x3 r14.1).bind fun r15 =>
  (pv r15.2.2 (binA Try.prog .add 3 (r15.2.1 x8) (.v (Go.Value.int Go.IntKind.i64 1)))).bind fun r16 =>
  some (.normal, ⟨[(8, r16.1), (3, r15.1), (19, (r15.2.1 r12.1)), (6, (r15.2.1 r8.1)), (5, (r15.2.1 r10.1)), (4, (r15.2.1 x8)), (9, (r15.2.1 r4.1)), (8, (r15.2.1 x8)), (3, (r15.2.1 x3)), (2, (r15.2.1 x2)), (1, (r15.2.1 x1)), (0, (r15.2.1 x0))], r16.2⟩)) ((pv r12.2 (binA Try.prog .add 3 x8 (.v (Go.Value.int Go.IntKind.i64 1)))).bind fun r17 =>
  some (.normal, ⟨[(8, r17.1), (19, r12.1), (6, r8.1), (5, r10.1), (4, x8), (9, r4.1), (8, x8), (3, x3), (2, x2), (1, x1), (0, x0)], r17.2⟩))) (some (.exit 0, ⟨[(9, r4.1), (8, x8), (3, x3), (2, x2), (1, x1), (0, x0)], r4.2⟩))
theorem L_dirent_All_0_lit {E : FnA} {n n0 : Nat} {x8 x3 x2 x1 x0 : AV} {y : Bx} {Q : Ex → S → Prop} (h : Ends (B_dirent_All_0 E n n0 x8 x3 x2 x1 x0 y) Q) : Ends (L_dirent_All_0 E n n0 ⟨[(8, x8), (3, x3), (2, x2), (1, x1), (0, x0)], y⟩) Q := by
  rw [show L_dirent_All_0 E n n0 ⟨[(8, x8), (3, x3), (2, x2), (1, x1), (0, x0)], y⟩ = B_dirent_All_0 E n n0 x8 x3 x2 x1 x0 y by kernel_rfl]
  exact h
noncomputable def K_dirent_All_0 (_E : FnA) (_n _n0 : Nat) (t : S) : Option (Ex × S) :=
  some (.ret, ⟨((2, (get t.env 3)) :: (prune kp_dirent_All t.env)), t.bx⟩)
noncomputable def X_dirent_All_0 (_E : FnA) (_n _n0 : Nat) (i : Nat) (t : S) : Option (Ex × S) :=
  if i = 0 then some (.ret, ⟨((2, (get t.env 3)) :: (prune kp_dirent_All t.env)), t.bx⟩) else some (.exit i, ⟨t.env, t.bx⟩)
noncomputable def X_dirent_All_0_0 (_E : FnA) (_n _n0 : Nat) (x9 x8 x3 x2 x1 x0 : AV) (y : Bx) : Option (Ex × S) :=
  some (.ret, ⟨[(2, x3), (9, x9), (8, x8), (3, x3), (2, x2), (1, x1), (0, x0)], y⟩)
theorem X_dirent_All_0_0_lit {E : FnA} {n n0 : Nat} {x9 x8 x3 x2 x1 x0 : AV} {y : Bx} {Q : Ex → S → Prop} (h : Ends (X_dirent_All_0_0 E n n0 x9 x8 x3 x2 x1 x0 y) Q) : Ends (X_dirent_All_0 E n n0 0 ⟨[(9, x9), (8, x8), (3, x3), (2, x2), (1, x1), (0, x0)], y⟩) Q := by
  rw [show X_dirent_All_0 E n n0 0 ⟨[(9, x9), (8, x8), (3, x3), (2, x2), (1, x1), (0, x0)], y⟩ = X_dirent_All_0_0 E n n0 x9 x8 x3 x2 x1 x0 y by kernel_rfl]
  exact h
noncomputable def F_dirent_All (E : FnA) (n n0 : Nat) (a0 : AV) (bx : Bx) : Option (Ex × S) :=
  (boxA bx a0).bind fun r1 =>
  (some (AV.bsl (List.length r1.2) 0 0 0, r1.2 ++ [[]])).bind fun r2 =>
  (some (AV.bsl (List.length r2.2) 0 0 0, r2.2 ++ [[]])).bind fun r3 =>
  exitA (iter ⟨[(8, (.v (Go.Value.int Go.IntKind.i64 0))), (3, r3.1), (2, r2.1), (1, r1.1), (0, a0)], r3.2⟩ (L_dirent_All_0 E n n0) n ⟨[(8, (.v (Go.Value.int Go.IntKind.i64 0))), (3, r3.1), (2, r2.1), (1, r1.1), (0, a0)], r3.2⟩) (K_dirent_All_0 E n n0) (X_dirent_All_0 E n n0)
theorem c_dirent_All_eq : Try.f18.body = some c_dirent_All := by kernel_rfl
theorem d_dirent_All : drawsOk Try.prog md0 c_dirent_All = true := by kernel_rfl
theorem F_dirent_All_eq (E : FnA) (n n0 : Nat) (a0 : AV) (bx : Bx) : evK Try.prog md0 E 26 kp_dirent_All n n0 c_dirent_All ⟨[(0, a0)], bx⟩ (fun s => some (.normal, s)) (fun i s => some (.exit i, s)) = F_dirent_All E n n0 a0 bx := by kernel_rfl

theorem E_dirent_All (n : Nat) (a0 : AV) (bx : Bx) : evFn cx0 ext0 (n + 1) 18 [a0] bx = fin Try.prog [.tmp 2] (F_dirent_All (evFn cx0 ext0 n) n bx.length a0 bx) := by
  rw [evFn_eq2 (cx := cx0) (c := c_dirent_All) rfl Try.func18 c_dirent_All_eq (of_decide_eq_true (by kernel_rfl)) d_dirent_All (of_decide_eq_true (by kernel_rfl))]
  exact congrArg (fin Try.prog [.tmp 2]) (F_dirent_All_eq (evFn cx0 ext0 n) n bx.length a0 bx)

/-- scupper/scupperref12.All -/
def kp_r12_All : Option (List Nat) := some [0, 1, 2, 3, 4, 5, 6, 10, 21]
noncomputable def c_r12_All : Code := Try.f19.body.getD .skip
noncomputable def L_r12_All_0 (E : FnA) (_n n0 : Nat) (s : S) : Option (Ex × S) :=
  (pv s.bx (binA Try.prog .lss 3 (get s.env 4) (.v (Go.Value.int Go.IntKind.i64 4)))).bind fun r18 =>
  condA r18.1 ((pv r18.2 (loadA Try.prog 37 r18.2 (get (prune kp_r12_All s.env) 1))).bind fun r19 =>
  (callA E md0 r19.2 24 [r19.1, (get (prune kp_r12_All s.env) 4)]).bind fun r20 =>
  (pv r20.2 (tupA r20.1 0)).bind fun r21 =>
  (pv r21.2 (tupA r20.1 1)).bind fun r22 =>
  (pv r22.2 (tupA r20.1 2)).bind fun r23 =>
  (allocA Try.prog r23.2 23).bind fun r24 =>
  (stA Try.prog 23 r24.2 r24.1 r21.1).bind fun r25 =>
  (pv r25.2 (binA Try.prog .eql 3 r22.1 (.v (Go.Value.int Go.IntKind.i64 1)))).bind fun r26 =>
  condA r26.1 ((pv r26.2 (loadA Try.prog 23 r26.2 r24.1)).bind fun r27 =>
  (buildSliceA Try.prog r27.2 45 1 [(0, r27.1)]).bind fun r28 =>
  (appA Try.prog n0 r28.2 45 (get (prune kp_r12_All (prune kp_r12_All (prune kp_r12_All s.env))) 3) r28.1).bind fun r29 =>
  (pv r29.2.2 (binA Try.prog .add 3 (get (prune kp_r12_All (mapE r29.2.1 (prune kp_r12_All (prune kp_r12_All (prune kp_r12_All s.env))))) 4) (.v (Go.Value.int Go.IntKind.i64 1)))).bind fun r30 =>
  some (.normal, ⟨((4, r30.1) :: (3, r29.1) :: (21, (r29.2.1 r26.1)) :: (6, (r29.2.1 r22.1)) :: (5, (r29.2.1 r24.1)) :: (10, (r29.2.1 r18.1)) :: (prune kp_r12_All (prune kp_r12_All (mapE r29.2.1 (prune kp_r12_All (prune kp_r12_All (prune kp_r12_All s.env))))))), r30.2⟩)) ((pv r26.2 (binA Try.prog .add 3 (get (prune kp_r12_All (prune kp_r12_All (prune kp_r12_All s.env))) 4) (.v (Go.Value.int Go.IntKind.i64 1)))).bind fun r31 =>
  some (.normal, ⟨((4, r31.1) :: (21, r26.1) :: (6, r22.1) :: (5, r24.1) :: (10, r18.1) :: (prune kp_r12_All (prune kp_r12_All (prune kp_r12_All (prune kp_r12_All s.env))))), r31.2⟩))) (some (.exit 0, ⟨((10, r18.1) :: (prune kp_r12_All s.env)), r18.2⟩))
noncomputable def B_r12_All_0 (E : FnA) (_n n0 : Nat) (x4 x3 x2 x1 x0 : AV) (y : Bx) : Option (Ex × S) :=
  (pv y (binA Try.prog .lss 3 x4 (.v (Go.Value.int Go.IntKind.i64 4)))).bind fun r4 =>
  condA r4.1 ((pv r4.2 (loadA Try.prog 37 r4.2 x1)).bind fun r5 =>
  (callA E md0 r5.2 24 [r5.1, x4]).bind fun r6 =>
  (pv r6.2 (tupA r6.1 0)).bind fun r7 =>
  (pv r7.2 (tupA r6.1 1)).bind fun r8 =>
  (pv r8.2 (tupA r6.1 2)).bind fun r9 =>
  (allocA Try.prog r9.2 23).bind fun r10 =>
  (stA Try.prog 23 r10.2 r10.1 r7.1).bind fun r11 =>
  (pv r11.2 (binA Try.prog .eql 3 r8.1 (.v (Go.Value.int Go.IntKind.i64 1)))).bind fun r12 =>
  condA r12.1 ((pv r12.2 (loadA Try.prog 23 r12.2 r10.1)).bind fun r13 =>
  (buildSliceA Try.prog r13.2 45 1 [(0, r13.1)]).bind fun r14 =>
  (appA Try.prog n0 r14.2 45 x3 r14.1).bind fun r15 =>
  (pv r15.2.2 (binA Try.prog .add 3 (r15.2.1 x4) (.v (Go.Value.int Go.IntKind.i64 1)))).bind fun r16 =>
  some (.normal, ⟨[(4, r16.1), (3, r15.1), (21, (r15.2.1 r12.1)), (6, (r15.2.1 r8.1)), (5, (r15.2.1 r10.1)), (10, (r15.2.1 r4.1)), (4, (r15.2.1 x4)), (3, (r15.2.1 x3)), (2, (r15.2.1 x2)), (1, (r15.2.1 x1)), (0, (r15.2.1 x0))], r16.2⟩)) ((pv r12.2 (binA Try.prog .add 3 x4 (.v (Go.Value.int Go.IntKind.i64 1)))).bind fun r17 =>
  some (.normal, ⟨[(4, r17.1), (21, r12.1), (6, r8.1), (5, r10.1), (10, r4.1), (4, x4), (3, x3), (2, x2), (1, x1), (0, x0)], r17.2⟩))) (some (.exit 0, ⟨[(10, r4.1), (4, x4), (3, x3), (2, x2), (1, x1), (0, x0)], r4.2⟩))
theorem L_r12_All_0_lit {E : FnA} {n n0 : Nat} {x4 x3 x2 x1 x0 : AV} {y : Bx} {Q : Ex → S → Prop} (h : Ends (B_r12_All_0 E n n0 x4 x3 x2 x1 x0 y) Q) : Ends (L_r12_All_0 E n n0 ⟨[(4, x4), (3, x3), (2, x2), (1, x1), (0, x0)], y⟩) Q := by
  rw [show L_r12_All_0 E n n0 ⟨[(4, x4), (3, x3), (2, x2), (1, x1), (0, x0)], y⟩ = B_r12_All_0 E n n0 x4 x3 x2 x1 x0 y by kernel_rfl]
  exact h
noncomputable def K_r12_All_0 (_E : FnA) (_n _n0 : Nat) (t : S) : Option (Ex × S) :=
  some (.ret, ⟨((2, (get t.env 3)) :: (prune kp_r12_All t.env)), t.bx⟩)
noncomputable def X_r12_All_0 (_E : FnA) (_n _n0 : Nat) (i : Nat) (t : S) : Option (Ex × S) :=
  if i = 0 then some (.ret, ⟨((2, (get t.env 3)) :: (prune kp_r12_All t.env)), t.bx⟩) else some (.exit i, ⟨t.env, t.bx⟩)
noncomputable def X_r12_All_0_0 (_E : FnA) (_n _n0 : Nat) (x10 x4 x3 x2 x1 x0 : AV) (y : Bx) : Option (Ex × S) :=
  some (.ret, ⟨[(2, x3), (10, x10), (4, x4), (3, x3), (2, x2), (1, x1), (0, x0)], y⟩)
theorem X_r12_All_0_0_lit {E : FnA} {n n0 : Nat} {x10 x4 x3 x2 x1 x0 : AV} {y : Bx} {Q : Ex → S → Prop} (h : Ends (X_r12_All_0_0 E n n0 x10 x4 x3 x2 x1 x0 y) Q) : Ends (X_r12_All_0 E n n0 0 ⟨[(10, x10), (4, x4), (3, x3), (2, x2), (1, x1), (0, x0)], y⟩) Q := by
  rw [show X_r12_All_0 E n n0 0 ⟨[(10, x10), (4, x4), (3, x3), (2, x2), (1, x1), (0, x0)], y⟩ = X_r12_All_0_0 E n n0 x10 x4 x3 x2 x1 x0 y by kernel_rfl]
  exact h
noncomputable def F_r12_All (E : FnA) (n n0 : Nat) (a0 : AV) (bx : Bx) : Option (Ex × S) :=
  (boxA bx a0).bind fun r1 =>
  (some (AV.bsl (List.length r1.2) 0 0 0, r1.2 ++ [[]])).bind fun r2 =>
  (buildSliceA Try.prog r2.2 45 0 []).bind fun r3 =>
  exitA (iter ⟨[(4, (.v (Go.Value.int Go.IntKind.i64 0))), (3, r3.1), (2, r2.1), (1, r1.1), (0, a0)], r3.2⟩ (L_r12_All_0 E n n0) n ⟨[(4, (.v (Go.Value.int Go.IntKind.i64 0))), (3, r3.1), (2, r2.1), (1, r1.1), (0, a0)], r3.2⟩) (K_r12_All_0 E n n0) (X_r12_All_0 E n n0)
theorem c_r12_All_eq : Try.f19.body = some c_r12_All := by kernel_rfl
theorem d_r12_All : drawsOk Try.prog md0 c_r12_All = true := by kernel_rfl
theorem F_r12_All_eq (E : FnA) (n n0 : Nat) (a0 : AV) (bx : Bx) : evK Try.prog md0 E 27 kp_r12_All n n0 c_r12_All ⟨[(0, a0)], bx⟩ (fun s => some (.normal, s)) (fun i s => some (.exit i, s)) = F_r12_All E n n0 a0 bx := by kernel_rfl

theorem E_r12_All (n : Nat) (a0 : AV) (bx : Bx) : evFn cx0 ext0 (n + 1) 19 [a0] bx = fin Try.prog [.tmp 2] (F_r12_All (evFn cx0 ext0 n) n bx.length a0 bx) := by
  rw [evFn_eq2 (cx := cx0) (c := c_r12_All) rfl Try.func19 c_r12_All_eq (of_decide_eq_true (by kernel_rfl)) d_r12_All (of_decide_eq_true (by kernel_rfl))]
  exact congrArg (fin Try.prog [.tmp 2]) (F_r12_All_eq (evFn cx0 ext0 n) n bx.length a0 bx)

/-- scupper/dirent.Find -/
def kp_dirent_Find : Option (List Nat) := some [0, 1, 2, 3, 4]
noncomputable def c_dirent_Find : Code := Try.f20.body.getD .skip
noncomputable def F_dirent_Find (E : FnA) (_n _n0 : Nat) (a0 a1 : AV) (bx : Bx) : Option (Ex × S) :=
  (boxA bx a0).bind fun r1 =>
  (boxA r1.2 a1).bind fun r2 =>
  (pv r2.2 (loadA Try.prog 37 r2.2 r1.1)).bind fun r3 =>
  (callA E md_dirent_Find r3.2 32 [r3.1, (AV.fn 33 [] [r2.1])]).bind fun r4 =>
  some (.ret, ⟨[(4, r4.1), (4, (.v (Go.Value.int Go.IntKind.i64 0))), (3, r2.1), (2, r1.1), (0, a0), (1, a1)], r4.2⟩)
theorem c_dirent_Find_eq : Try.f20.body = some c_dirent_Find := by kernel_rfl
theorem d_dirent_Find : drawsOk Try.prog md_dirent_Find c_dirent_Find = true := by kernel_rfl
theorem F_dirent_Find_eq (E : FnA) (n n0 : Nat) (a0 a1 : AV) (bx : Bx) : evK Try.prog md_dirent_Find E 8 kp_dirent_Find n n0 c_dirent_Find ⟨[(0, a0), (1, a1)], bx⟩ (fun s => some (.normal, s)) (fun i s => some (.exit i, s)) = F_dirent_Find E n n0 a0 a1 bx := by kernel_rfl

theorem E_dirent_Find (n : Nat) (a0 a1 : AV) (bx : Bx) : evFn cx0 ext0 (n + 1) 20 [a0, a1] bx = fin Try.prog [.tmp 4] (F_dirent_Find (evFn cx0 ext0 n) n bx.length a0 a1 bx) := by
  rw [evFn_eq2 (cx := cx0) (c := c_dirent_Find) rfl Try.func20 c_dirent_Find_eq (of_decide_eq_true (by kernel_rfl)) d_dirent_Find (of_decide_eq_true (by kernel_rfl))]
  exact congrArg (fin Try.prog [.tmp 4]) (F_dirent_Find_eq (evFn cx0 ext0 n) n bx.length a0 a1 bx)

/-- scupper/scupperref12.Find -/
def kp_r12_Find : Option (List Nat) := some [0, 1, 2, 4, 5, 6, 7, 10, 27]
noncomputable def c_r12_Find : Code := Try.f21.body.getD .skip
noncomputable def L_r12_Find_0 (E : FnA) (_n _n0 : Nat) (s : S) : Option (Ex × S) :=
  (pv s.bx (binA Try.prog .lss 3 (get s.env 5) (.v (Go.Value.int Go.IntKind.i64 4)))).bind fun r17 =>
  condA r17.1 ((pv r17.2 (loadA Try.prog 37 r17.2 (get (prune kp_r12_Find s.env) 2))).bind fun r18 =>
  (callA E md0 r18.2 24 [r18.1, (get (prune kp_r12_Find s.env) 5)]).bind fun r19 =>
  (pv r19.2 (tupA r19.1 0)).bind fun r20 =>
  (pv r20.2 (tupA r19.1 1)).bind fun r21 =>
  (pv r21.2 (tupA r19.1 2)).bind fun r22 =>
  (allocA Try.prog r22.2 23).bind fun r23 =>
  (stA Try.prog 23 r23.2 r23.1 r20.1).bind fun r24 =>
  (pv r24.2 (binA Try.prog .eql 3 r21.1 (.v (Go.Value.int Go.IntKind.i64 1)))).bind fun r25 =>
  (gsel true r25.2 (pv r25.2 (fieldAddrA Try.prog 23 r23.1 1)) r25.1).bind fun r26 =>
  (gsel true r26.2 (pv r26.2 (loadA Try.prog 9 r26.2 r26.1)) r25.1).bind fun r27 =>
  (gsel true r27.2 (some ((get (prune kp_r12_Find (prune kp_r12_Find s.env)) 1), r27.2)) r25.1).bind fun r28 =>
  (gsel true r28.2 (pv r28.2 (binA Try.prog .eql 9 r27.1 r28.1)) r25.1).bind fun r29 =>
  (pv r29.2 (pickA r25.1 r29.1 (.v (Go.Value.bool false)))).bind fun r30 =>
  condA r30.1 (some (.ret, ⟨((4, (get (prune kp_r12_Find (prune kp_r12_Find (prune kp_r12_Find s.env))) 5)) :: (27, r30.1) :: (7, r21.1) :: (6, r23.1) :: (10, r17.1) :: (prune kp_r12_Find (prune kp_r12_Find (prune kp_r12_Find (prune kp_r12_Find s.env))))), r30.2⟩)) ((pv r30.2 (binA Try.prog .add 3 (get (prune kp_r12_Find (prune kp_r12_Find (prune kp_r12_Find s.env))) 5) (.v (Go.Value.int Go.IntKind.i64 1)))).bind fun r31 =>
  some (.normal, ⟨((5, r31.1) :: (27, r30.1) :: (7, r21.1) :: (6, r23.1) :: (10, r17.1) :: (prune kp_r12_Find (prune kp_r12_Find (prune kp_r12_Find (prune kp_r12_Find s.env))))), r31.2⟩))) (some (.exit 0, ⟨((10, r17.1) :: (prune kp_r12_Find s.env)), r17.2⟩))
noncomputable def B_r12_Find_0 (E : FnA) (_n _n0 : Nat) (x5 x4 x2 x0 x1 : AV) (y : Bx) : Option (Ex × S) :=
  (pv y (binA Try.prog .lss 3 x5 (.v (Go.Value.int Go.IntKind.i64 4)))).bind fun r2 =>
  condA r2.1 ((pv r2.2 (loadA Try.prog 37 r2.2 x2)).bind fun r3 =>
  (callA E md0 r3.2 24 [r3.1, x5]).bind fun r4 =>
  (pv r4.2 (tupA r4.1 0)).bind fun r5 =>
  (pv r5.2 (tupA r4.1 1)).bind fun r6 =>
  (pv r6.2 (tupA r4.1 2)).bind fun r7 =>
  (allocA Try.prog r7.2 23).bind fun r8 =>
  (stA Try.prog 23 r8.2 r8.1 r5.1).bind fun r9 =>
  (pv r9.2 (binA Try.prog .eql 3 r6.1 (.v (Go.Value.int Go.IntKind.i64 1)))).bind fun r10 =>
  (gsel true r10.2 (pv r10.2 (fieldAddrA Try.prog 23 r8.1 1)) r10.1).bind fun r11 =>
  (gsel true r11.2 (pv r11.2 (loadA Try.prog 9 r11.2 r11.1)) r10.1).bind fun r12 =>
  (gsel true r12.2 (some (x1, r12.2)) r10.1).bind fun r13 =>
  (gsel true r13.2 (pv r13.2 (binA Try.prog .eql 9 r12.1 r13.1)) r10.1).bind fun r14 =>
  (pv r14.2 (pickA r10.1 r14.1 (.v (Go.Value.bool false)))).bind fun r15 =>
  condA r15.1 (some (.ret, ⟨[(4, x5), (27, r15.1), (7, r6.1), (6, r8.1), (10, r2.1), (5, x5), (4, x4), (2, x2), (0, x0), (1, x1)], r15.2⟩)) ((pv r15.2 (binA Try.prog .add 3 x5 (.v (Go.Value.int Go.IntKind.i64 1)))).bind fun r16 =>
  some (.normal, ⟨[(5, r16.1), (27, r15.1), (7, r6.1), (6, r8.1), (10, r2.1), (5, x5), (4, x4), (2, x2), (0, x0), (1, x1)], r16.2⟩))) (some (.exit 0, ⟨[(10, r2.1), (5, x5), (4, x4), (2, x2), (0, x0), (1, x1)], r2.2⟩))
theorem L_r12_Find_0_lit {E : FnA} {n n0 : Nat} {x5 x4 x2 x0 x1 : AV} {y : Bx} {Q : Ex → S → Prop} (h : Ends (B_r12_Find_0 E n n0 x5 x4 x2 x0 x1 y) Q) : Ends (L_r12_Find_0 E n n0 ⟨[(5, x5), (4, x4), (2, x2), (0, x0), (1, x1)], y⟩) Q := by
  rw [show L_r12_Find_0 E n n0 ⟨[(5, x5), (4, x4), (2, x2), (0, x0), (1, x1)], y⟩ = B_r12_Find_0 E n n0 x5 x4 x2 x0 x1 y by kernel_rfl]
  exact h
noncomputable def K_r12_Find_0 (_E : FnA) (_n _n0 : Nat) (t : S) : Option (Ex × S) :=
  some (.ret, ⟨((4, (.v (Go.Value.int Go.IntKind.i64 (-1)))) :: (prune kp_r12_Find t.env)), t.bx⟩)
noncomputable def X_r12_Find_0 (_E : FnA) (_n _n0 : Nat) (i : Nat) (t : S) : Option (Ex × S) :=
  if i = 0 then some (.ret, ⟨((4, (.v (Go.Value.int Go.IntKind.i64 (-1)))) :: (prune kp_r12_Find t.env)), t.bx⟩) else some (.exit i, ⟨t.env, t.bx⟩)
noncomputable def X_r12_Find_0_0 (_E : FnA) (_n _n0 : Nat) (x10 x5 x4 x2 x0 x1 : AV) (y : Bx) : Option (Ex × S) :=
  some (.ret, ⟨[(4, (.v (Go.Value.int Go.IntKind.i64 (-1)))), (10, x10), (5, x5), (4, x4), (2, x2), (0, x0), (1, x1)], y⟩)
theorem X_r12_Find_0_0_lit {E : FnA} {n n0 : Nat} {x10 x5 x4 x2 x0 x1 : AV} {y : Bx} {Q : Ex → S → Prop} (h : Ends (X_r12_Find_0_0 E n n0 x10 x5 x4 x2 x0 x1 y) Q) : Ends (X_r12_Find_0 E n n0 0 ⟨[(10, x10), (5, x5), (4, x4), (2, x2), (0, x0), (1, x1)], y⟩) Q := by
  rw [show X_r12_Find_0 E n n0 0 ⟨[(10, x10), (5, x5), (4, x4), (2, x2), (0, x0), (1, x1)], y⟩ = X_r12_Find_0_0 E n n0 x10 x5 x4 x2 x0 x1 y by kernel_rfl]
  exact h
noncomputable def F_r12_Find (E : FnA) (n n0 : Nat) (a0 a1 : AV) (bx : Bx) : Option (Ex × S) :=
  (boxA bx a0).bind fun r1 =>
  exitA (iter ⟨[(5, (.v (Go.Value.int Go.IntKind.i64 0))), (4, (.v (Go.Value.int Go.IntKind.i64 0))), (2, r1.1), (0, a0), (1, a1)], r1.2⟩ (L_r12_Find_0 E n n0) n ⟨[(5, (.v (Go.Value.int Go.IntKind.i64 0))), (4, (.v (Go.Value.int Go.IntKind.i64 0))), (2, r1.1), (0, a0), (1, a1)], r1.2⟩) (K_r12_Find_0 E n n0) (X_r12_Find_0 E n n0)
theorem c_r12_Find_eq : Try.f21.body = some c_r12_Find := by kernel_rfl
theorem d_r12_Find : drawsOk Try.prog md0 c_r12_Find = true := by kernel_rfl
theorem F_r12_Find_eq (E : FnA) (n n0 : Nat) (a0 a1 : AV) (bx : Bx) : evK Try.prog md0 E 29 kp_r12_Find n n0 c_r12_Find ⟨[(0, a0), (1, a1)], bx⟩ (fun s => some (.normal, s)) (fun i s => some (.exit i, s)) = F_r12_Find E n n0 a0 a1 bx := by kernel_rfl

theorem E_r12_Find (n : Nat) (a0 a1 : AV) (bx : Bx) : evFn cx0 ext0 (n + 1) 21 [a0, a1] bx = fin Try.prog [.tmp 4] (F_r12_Find (evFn cx0 ext0 n) n bx.length a0 a1 bx) := by
  rw [evFn_eq2 (cx := cx0) (c := c_r12_Find) rfl Try.func21 c_r12_Find_eq (of_decide_eq_true (by kernel_rfl)) d_r12_Find (of_decide_eq_true (by kernel_rfl))]
  exact congrArg (fin Try.prog [.tmp 4]) (F_r12_Find_eq (evFn cx0 ext0 n) n bx.length a0 a1 bx)

/-- scupper/dirent.Room -/
def kp_dirent_Room : Option (List Nat) := some [0, 1, 2]
noncomputable def c_dirent_Room : Code := Try.f22.body.getD .skip
noncomputable def F_dirent_Room (E : FnA) (_n _n0 : Nat) (a0 : AV) (bx : Bx) : Option (Ex × S) :=
  (boxA bx a0).bind fun r1 =>
  (pv r1.2 (loadA Try.prog 37 r1.2 r1.1)).bind fun r2 =>
  (callA E md0 r2.2 32 [r2.1, (.fn 34 [] [])]).bind fun r3 =>
  some (.ret, ⟨[(2, r3.1), (2, (.v (Go.Value.int Go.IntKind.i64 0))), (1, r1.1), (0, a0)], r3.2⟩)
theorem c_dirent_Room_eq : Try.f22.body = some c_dirent_Room := by kernel_rfl
theorem d_dirent_Room : drawsOk Try.prog md0 c_dirent_Room = true := by kernel_rfl
theorem F_dirent_Room_eq (E : FnA) (n n0 : Nat) (a0 : AV) (bx : Bx) : evK Try.prog md0 E 5 kp_dirent_Room n n0 c_dirent_Room ⟨[(0, a0)], bx⟩ (fun s => some (.normal, s)) (fun i s => some (.exit i, s)) = F_dirent_Room E n n0 a0 bx := by kernel_rfl

theorem E_dirent_Room (n : Nat) (a0 : AV) (bx : Bx) : evFn cx0 ext0 (n + 1) 22 [a0] bx = fin Try.prog [.tmp 2] (F_dirent_Room (evFn cx0 ext0 n) n bx.length a0 bx) := by
  rw [evFn_eq2 (cx := cx0) (c := c_dirent_Room) rfl Try.func22 c_dirent_Room_eq (of_decide_eq_true (by kernel_rfl)) d_dirent_Room (of_decide_eq_true (by kernel_rfl))]
  exact congrArg (fin Try.prog [.tmp 2]) (F_dirent_Room_eq (evFn cx0 ext0 n) n bx.length a0 bx)

/-- scupper/scupperref12.Room -/
def kp_r12_Room : Option (List Nat) := some [0, 1, 2, 3, 5, 8, 19]
noncomputable def c_r12_Room : Code := Try.f23.body.getD .skip
noncomputable def L_r12_Room_0 (E : FnA) (_n _n0 : Nat) (s : S) : Option (Ex × S) :=
  (pv s.bx (binA Try.prog .lss 3 (get s.env 3) (.v (Go.Value.int Go.IntKind.i64 4)))).bind fun r12 =>
  condA r12.1 ((pv r12.2 (loadA Try.prog 37 r12.2 (get (prune kp_r12_Room s.env) 1))).bind fun r13 =>
  (callA E md0 r13.2 24 [r13.1, (get (prune kp_r12_Room s.env) 3)]).bind fun r14 =>
  (pv r14.2 (tupA r14.1 0)).bind fun r15 =>
  (pv r15.2 (tupA r14.1 1)).bind fun r16 =>
  (pv r16.2 (tupA r14.1 2)).bind fun r17 =>
  (allocA Try.prog r17.2 23).bind fun r18 =>
  (stA Try.prog 23 r18.2 r18.1 r15.1).bind fun r19 =>
  (pv r19.2 (binA Try.prog .eql 3 r16.1 (.v (Go.Value.int Go.IntKind.i64 0)))).bind fun r20 =>
  condA r20.1 (some (.ret, ⟨((2, (get (prune kp_r12_Room (prune kp_r12_Room (prune kp_r12_Room s.env))) 3)) :: (19, r20.1) :: (5, r16.1) :: (8, r12.1) :: (prune kp_r12_Room (prune kp_r12_Room (prune kp_r12_Room (prune kp_r12_Room s.env))))), r20.2⟩)) ((pv r20.2 (binA Try.prog .add 3 (get (prune kp_r12_Room (prune kp_r12_Room (prune kp_r12_Room s.env))) 3) (.v (Go.Value.int Go.IntKind.i64 1)))).bind fun r21 =>
  some (.normal, ⟨((3, r21.1) :: (19, r20.1) :: (5, r16.1) :: (8, r12.1) :: (prune kp_r12_Room (prune kp_r12_Room (prune kp_r12_Room (prune kp_r12_Room s.env))))), r21.2⟩))) (some (.exit 0, ⟨((8, r12.1) :: (prune kp_r12_Room s.env)), r12.2⟩))
noncomputable def B_r12_Room_0 (E : FnA) (_n _n0 : Nat) (x3 x2 x1 x0 : AV) (y : Bx) : Option (Ex × S) :=
  (pv y (binA Try.prog .lss 3 x3 (.v (Go.Value.int Go.IntKind.i64 4)))).bind fun r2 =>
  condA r2.1 ((pv r2.2 (loadA Try.prog 37 r2.2 x1)).bind fun r3 =>
  (callA E md0 r3.2 24 [r3.1, x3]).bind fun r4 =>
  (pv r4.2 (tupA r4.1 0)).bind fun r5 =>
  (pv r5.2 (tupA r4.1 1)).bind fun r6 =>
  (pv r6.2 (tupA r4.1 2)).bind fun r7 =>
  (allocA Try.prog r7.2 23).bind fun r8 =>
  (stA Try.prog 23 r8.2 r8.1 r5.1).bind fun r9 =>
  (pv r9.2 (binA Try.prog .eql 3 r6.1 (.v (Go.Value.int Go.IntKind.i64 0)))).bind fun r10 =>
  condA r10.1 (some (.ret, ⟨[(2, x3), (19, r10.1), (5, r6.1), (8, r2.1), (3, x3), (2, x2), (1, x1), (0, x0)], r10.2⟩)) ((pv r10.2 (binA Try.prog .add 3 x3 (.v (Go.Value.int Go.IntKind.i64 1)))).bind fun r11 =>
  some (.normal, ⟨[(3, r11.1), (19, r10.1), (5, r6.1), (8, r2.1), (3, x3), (2, x2), (1, x1), (0, x0)], r11.2⟩))) (some (.exit 0, ⟨[(8, r2.1), (3, x3), (2, x2), (1, x1), (0, x0)], r2.2⟩))
theorem L_r12_Room_0_lit {E : FnA} {n n0 : Nat} {x3 x2 x1 x0 : AV} {y : Bx} {Q : Ex → S → Prop} (h : Ends (B_r12_Room_0 E n n0 x3 x2 x1 x0 y) Q) : Ends (L_r12_Room_0 E n n0 ⟨[(3, x3), (2, x2), (1, x1), (0, x0)], y⟩) Q := by
  rw [show L_r12_Room_0 E n n0 ⟨[(3, x3), (2, x2), (1, x1), (0, x0)], y⟩ = B_r12_Room_0 E n n0 x3 x2 x1 x0 y by kernel_rfl]
  exact h
noncomputable def K_r12_Room_0 (_E : FnA) (_n _n0 : Nat) (t : S) : Option (Ex × S) :=
  some (.ret, ⟨((2, (.v (Go.Value.int Go.IntKind.i64 (-1)))) :: (prune kp_r12_Room t.env)), t.bx⟩)
noncomputable def X_r12_Room_0 (_E : FnA) (_n _n0 : Nat) (i : Nat) (t : S) : Option (Ex × S) :=
  if i = 0 then some (.ret, ⟨((2, (.v (Go.Value.int Go.IntKind.i64 (-1)))) :: (prune kp_r12_Room t.env)), t.bx⟩) else some (.exit i, ⟨t.env, t.bx⟩)
noncomputable def X_r12_Room_0_0 (_E : FnA) (_n _n0 : Nat) (x8 x3 x2 x1 x0 : AV) (y : Bx) : Option (Ex × S) :=
  some (.ret, ⟨[(2, (.v (Go.Value.int Go.IntKind.i64 (-1)))), (8, x8), (3, x3), (2, x2), (1, x1), (0, x0)], y⟩)
theorem X_r12_Room_0_0_lit {E : FnA} {n n0 : Nat} {x8 x3 x2 x1 x0 : AV} {y : Bx} {Q : Ex → S → Prop} (h : Ends (X_r12_Room_0_0 E n n0 x8 x3 x2 x1 x0 y) Q) : Ends (X_r12_Room_0 E n n0 0 ⟨[(8, x8), (3, x3), (2, x2), (1, x1), (0, x0)], y⟩) Q := by
  rw [show X_r12_Room_0 E n n0 0 ⟨[(8, x8), (3, x3), (2, x2), (1, x1), (0, x0)], y⟩ = X_r12_Room_0_0 E n n0 x8 x3 x2 x1 x0 y by kernel_rfl]
  exact h
noncomputable def F_r12_Room (E : FnA) (n n0 : Nat) (a0 : AV) (bx : Bx) : Option (Ex × S) :=
  (boxA bx a0).bind fun r1 =>
  exitA (iter ⟨[(3, (.v (Go.Value.int Go.IntKind.i64 0))), (2, (.v (Go.Value.int Go.IntKind.i64 0))), (1, r1.1), (0, a0)], r1.2⟩ (L_r12_Room_0 E n n0) n ⟨[(3, (.v (Go.Value.int Go.IntKind.i64 0))), (2, (.v (Go.Value.int Go.IntKind.i64 0))), (1, r1.1), (0, a0)], r1.2⟩) (K_r12_Room_0 E n n0) (X_r12_Room_0 E n n0)
theorem c_r12_Room_eq : Try.f23.body = some c_r12_Room := by kernel_rfl
theorem d_r12_Room : drawsOk Try.prog md0 c_r12_Room = true := by kernel_rfl
theorem F_r12_Room_eq (E : FnA) (n n0 : Nat) (a0 : AV) (bx : Bx) : evK Try.prog md0 E 21 kp_r12_Room n n0 c_r12_Room ⟨[(0, a0)], bx⟩ (fun s => some (.normal, s)) (fun i s => some (.exit i, s)) = F_r12_Room E n n0 a0 bx := by kernel_rfl

theorem E_r12_Room (n : Nat) (a0 : AV) (bx : Bx) : evFn cx0 ext0 (n + 1) 23 [a0] bx = fin Try.prog [.tmp 2] (F_r12_Room (evFn cx0 ext0 n) n bx.length a0 bx) := by
  rw [evFn_eq2 (cx := cx0) (c := c_r12_Room) rfl Try.func23 c_r12_Room_eq (of_decide_eq_true (by kernel_rfl)) d_r12_Room (of_decide_eq_true (by kernel_rfl))]
  exact congrArg (fin Try.prog [.tmp 2]) (F_r12_Room_eq (evFn cx0 ext0 n) n bx.length a0 bx)

/-- scupper/scupperref12.At -/
def kp_r12_At : Option (List Nat) := some [0, 1, 2, 4, 5, 6, 7, 8, 9, 10, 12, 13, 14, 20, 29, 40, 72]
noncomputable def c_r12_At : Code := Try.f24.body.getD .skip
noncomputable def L_r12_At_0 (_E : FnA) (_n _n0 : Nat) (s : S) : Option (Ex × S) :=
  (pv s.bx (binA Try.prog .lss 3 (get s.env 9) (.v (Go.Value.int Go.IntKind.i64 13)))).bind fun r21 =>
  condA r21.1 ((gsel true r21.2 (some ((get (prune kp_r12_At s.env) 7), r21.2)) (get (prune kp_r12_At s.env) 8)).bind fun r22 =>
  (gsel true r22.2 (some ((get (prune kp_r12_At s.env) 9), r22.2)) (get (prune kp_r12_At s.env) 8)).bind fun r23 =>
  (gsel true r23.2 (pv r23.2 (indexAddrA Try.prog 28 r22.1 r23.1)) (get (prune kp_r12_At s.env) 8)).bind fun r24 =>
  (gsel true r24.2 (pv r24.2 (loadA Try.prog 5 r24.2 r24.1)) (get (prune kp_r12_At s.env) 8)).bind fun r25 =>
  (gsel true r25.2 (pv r25.2 (binA Try.prog .eql 5 r25.1 (.v (Go.Value.int Go.IntKind.u8 0)))) (get (prune kp_r12_At s.env) 8)).bind fun r26 =>
  (pv r26.2 (pickA (get (prune kp_r12_At s.env) 8) r26.1 (.v (Go.Value.bool false)))).bind fun r27 =>
  (pv r27.2 (binA Try.prog .add 3 (get (prune kp_r12_At (prune kp_r12_At s.env)) 9) (.v (Go.Value.int Go.IntKind.i64 1)))).bind fun r28 =>
  some (.normal, ⟨((9, r28.1) :: (8, r27.1) :: (29, r21.1) :: (prune kp_r12_At (prune kp_r12_At (prune kp_r12_At s.env)))), r28.2⟩)) (some (.exit 0, ⟨((29, r21.1) :: (prune kp_r12_At s.env)), r21.2⟩))
noncomputable def B_r12_At_0 (_E : FnA) (_n _n0 : Nat) (x9 x8 x7 x20 x6 x5 x4 x2 x0 x1 : AV) (y : Bx) : Option (Ex × S) :=
  (pv y (binA Try.prog .lss 3 x9 (.v (Go.Value.int Go.IntKind.i64 13)))).bind fun r13 =>
  condA r13.1 ((gsel true r13.2 (some (x7, r13.2)) x8).bind fun r14 =>
  (gsel true r14.2 (some (x9, r14.2)) x8).bind fun r15 =>
  (gsel true r15.2 (pv r15.2 (indexAddrA Try.prog 28 r14.1 r15.1)) x8).bind fun r16 =>
  (gsel true r16.2 (pv r16.2 (loadA Try.prog 5 r16.2 r16.1)) x8).bind fun r17 =>
  (gsel true r17.2 (pv r17.2 (binA Try.prog .eql 5 r17.1 (.v (Go.Value.int Go.IntKind.u8 0)))) x8).bind fun r18 =>
  (pv r18.2 (pickA x8 r18.1 (.v (Go.Value.bool false)))).bind fun r19 =>
  (pv r19.2 (binA Try.prog .add 3 x9 (.v (Go.Value.int Go.IntKind.i64 1)))).bind fun r20 =>
  some (.normal, ⟨[(9, r20.1), (8, r19.1), (29, r13.1), (9, x9), (8, x8), (7, x7), (20, x20), (6, x6), (5, x5), (4, x4), (2, x2), (0, x0), (1, x1)], r20.2⟩)) (some (.exit 0, ⟨[(29, r13.1), (9, x9), (8, x8), (7, x7), (20, x20), (6, x6), (5, x5), (4, x4), (2, x2), (0, x0), (1, x1)], r13.2⟩))
theorem L_r12_At_0_lit {E : FnA} {n n0 : Nat} {x9 x8 x7 x20 x6 x5 x4 x2 x0 x1 : AV} {y : Bx} {Q : Ex → S → Prop} (h : Ends (B_r12_At_0 E n n0 x9 x8 x7 x20 x6 x5 x4 x2 x0 x1 y) Q) : Ends (L_r12_At_0 E n n0 ⟨[(9, x9), (8, x8), (7, x7), (20, x20), (6, x6), (5, x5), (4, x4), (2, x2), (0, x0), (1, x1)], y⟩) Q := by
  rw [show L_r12_At_0 E n n0 ⟨[(9, x9), (8, x8), (7, x7), (20, x20), (6, x6), (5, x5), (4, x4), (2, x2), (0, x0), (1, x1)], y⟩ = B_r12_At_0 E n n0 x9 x8 x7 x20 x6 x5 x4 x2 x0 x1 y by kernel_rfl]
  exact h
noncomputable def K_r12_At_0 (E : FnA) (_n _n0 : Nat) (t : S) : Option (Ex × S) :=
  condA (get t.env 8) ((pv t.bx (buildA Try.prog 23 [])).bind fun r60 =>
  (stA Try.prog 23 r60.2 (get (prune kp_r12_At t.env) 4) r60.1).bind fun r61 =>
  some (.ret, ⟨((6, (.v (Go.Value.int Go.IntKind.i64 0))) :: (5, (.v (Go.Value.int Go.IntKind.i64 0))) :: (40, (get t.env 8)) :: (prune kp_r12_At (prune kp_r12_At t.env))), r61.2⟩)) ((callA E md0 t.bx 35 [(get (prune kp_r12_At t.env) 7), (.v (Go.Value.int Go.IntKind.i64 0))]).bind fun r62 =>
  (pv r62.2 (tupA r62.1 0)).bind fun r63 =>
  (pv r63.2 (tupA r62.1 1)).bind fun r64 =>
  (convA Try.prog r64.2 55 3 r63.1).bind fun r65 =>
  (pv r65.2 (indexAddrA Try.prog 28 (get (prune kp_r12_At (prune kp_r12_At t.env)) 7) (.v (Go.Value.int Go.IntKind.i64 2)))).bind fun r66 =>
  (pv r66.2 (loadA Try.prog 5 r66.2 r66.1)).bind fun r67 =>
  (convA Try.prog r67.2 5 3 r67.1).bind fun r68 =>
  (pv r68.2 (minL false r68.1 [(.v (Go.Value.int Go.IntKind.i64 10))])).bind fun r69 =>
  (pv r69.2 (binA Try.prog .add 3 (.v (Go.Value.int Go.IntKind.i64 3)) r69.1)).bind fun r70 =>
  (pv r70.2 (sliceA Try.prog r70.2 28 (get (prune kp_r12_At (prune kp_r12_At t.env)) 7) (some (.v (Go.Value.int Go.IntKind.i64 3))) (some r70.1) none)).bind fun r71 =>
  (convA Try.prog r71.2 28 9 r71.1).bind fun r72 =>
  (pv r72.2 (buildA Try.prog 23 [(0, r65.1), (1, r72.1)])).bind fun r73 =>
  (allocA Try.prog r73.2 23).bind fun r74 =>
  (stA Try.prog 23 r74.2 r74.1 r73.1).bind fun r75 =>
  (pv r75.2 (loadA Try.prog 23 r75.2 r74.1)).bind fun r76 =>
  (callA E md0 r76.2 9 [r76.1]).bind fun r77 =>
  (pv r77.2 (tupA r77.1 0)).bind fun r78 =>
  (pv r78.2 (tupA r77.1 1)).bind fun r79 =>
  (pv r79.2 (binA Try.prog .neq 25 r79.1 (.v (Go.Value.int Go.IntKind.i64 0)))).bind fun r80 =>
  (gsel false r80.2 (some (r78.1, r80.2)) r80.1).bind fun r81 =>
  (gsel false r81.2 (convA Try.prog r81.2 28 9 r81.1) r80.1).bind fun r82 =>
  (gsel false r82.2 (some ((get (prune kp_r12_At (prune kp_r12_At (prune kp_r12_At (prune kp_r12_At t.env)))) 7), r82.2)) r80.1).bind fun r83 =>
  (gsel false r83.2 (convA Try.prog r83.2 28 9 r83.1) r80.1).bind fun r84 =>
  (gsel false r84.2 (pv r84.2 (binA Try.prog .neq 9 r82.1 r84.1)) r80.1).bind fun r85 =>
  (pv r85.2 (pickA r80.1 (.v (Go.Value.bool true)) r85.1)).bind fun r86 =>
  condA r86.1 ((pv r86.2 (buildA Try.prog 23 [])).bind fun r87 =>
  (stA Try.prog 23 r87.2 (get (prune kp_r12_At (prune kp_r12_At (prune kp_r12_At (prune kp_r12_At (prune kp_r12_At t.env))))) 4) r87.1).bind fun r88 =>
  some (.ret, ⟨((6, (.v (Go.Value.int Go.IntKind.i64 0))) :: (5, (.v (Go.Value.int Go.IntKind.i64 2))) :: (72, r86.1) :: (14, r79.1) :: (13, r78.1) :: (12, r74.1) :: (10, r63.1) :: (40, (get t.env 8)) :: (prune kp_r12_At (prune kp_r12_At (prune kp_r12_At (prune kp_r12_At (prune kp_r12_At (prune kp_r12_At t.env))))))), r88.2⟩)) ((pv r86.2 (loadA Try.prog 23 r86.2 r74.1)).bind fun r89 =>
  (stA Try.prog 23 r89.2 (get (prune kp_r12_At (prune kp_r12_At (prune kp_r12_At (prune kp_r12_At (prune kp_r12_At t.env))))) 4) r89.1).bind fun r90 =>
  some (.ret, ⟨((6, (.v (Go.Value.int Go.IntKind.i64 0))) :: (5, (.v (Go.Value.int Go.IntKind.i64 1))) :: (72, r86.1) :: (14, r79.1) :: (13, r78.1) :: (12, r74.1) :: (10, r63.1) :: (40, (get t.env 8)) :: (prune kp_r12_At (prune kp_r12_At (prune kp_r12_At (prune kp_r12_At (prune kp_r12_At (prune kp_r12_At t.env))))))), r90.2⟩)))
noncomputable def X_r12_At_0 (E : FnA) (_n _n0 : Nat) (i : Nat) (t : S) : Option (Ex × S) :=
  if i = 0 then condA (get t.env 8) ((pv t.bx (buildA Try.prog 23 [])).bind fun r29 =>
  (stA Try.prog 23 r29.2 (get (prune kp_r12_At t.env) 4) r29.1).bind fun r30 =>
  some (.ret, ⟨((6, (.v (Go.Value.int Go.IntKind.i64 0))) :: (5, (.v (Go.Value.int Go.IntKind.i64 0))) :: (40, (get t.env 8)) :: (prune kp_r12_At (prune kp_r12_At t.env))), r30.2⟩)) ((callA E md0 t.bx 35 [(get (prune kp_r12_At t.env) 7), (.v (Go.Value.int Go.IntKind.i64 0))]).bind fun r31 =>
  (pv r31.2 (tupA r31.1 0)).bind fun r32 =>
  (pv r32.2 (tupA r31.1 1)).bind fun r33 =>
  (convA Try.prog r33.2 55 3 r32.1).bind fun r34 =>
  (pv r34.2 (indexAddrA Try.prog 28 (get (prune kp_r12_At (prune kp_r12_At t.env)) 7) (.v (Go.Value.int Go.IntKind.i64 2)))).bind fun r35 =>
  (pv r35.2 (loadA Try.prog 5 r35.2 r35.1)).bind fun r36 =>
  (convA Try.prog r36.2 5 3 r36.1).bind fun r37 =>
  (pv r37.2 (minL false r37.1 [(.v (Go.Value.int Go.IntKind.i64 10))])).bind fun r38 =>
  (pv r38.2 (binA Try.prog .add 3 (.v (Go.Value.int Go.IntKind.i64 3)) r38.1)).bind fun r39 =>
  (pv r39.2 (sliceA Try.prog r39.2 28 (get (prune kp_r12_At (prune kp_r12_At t.env)) 7) (some (.v (Go.Value.int Go.IntKind.i64 3))) (some r39.1) none)).bind fun r40 =>
  (convA Try.prog r40.2 28 9 r40.1).bind fun r41 =>
  (pv r41.2 (buildA Try.prog 23 [(0, r34.1), (1, r41.1)])).bind fun r42 =>
  (allocA Try.prog r42.2 23).bind fun r43 =>
  (stA Try.prog 23 r43.2 r43.1 r42.1).bind fun r44 =>
  (pv r44.2 (loadA Try.prog 23 r44.2 r43.1)).bind fun r45 =>
  (callA E md0 r45.2 9 [r45.1]).bind fun r46 =>
  (pv r46.2 (tupA r46.1 0)).bind fun r47 =>
  (pv r47.2 (tupA r46.1 1)).bind fun r48 =>
  (pv r48.2 (binA Try.prog .neq 25 r48.1 (.v (Go.Value.int Go.IntKind.i64 0)))).bind fun r49 =>
  (gsel false r49.2 (some (r47.1, r49.2)) r49.1).bind fun r50 =>
  (gsel false r50.2 (convA Try.prog r50.2 28 9 r50.1) r49.1).bind fun r51 =>
  (gsel false r51.2 (some ((get (prune kp_r12_At (prune kp_r12_At (prune kp_r12_At (prune kp_r12_At t.env)))) 7), r51.2)) r49.1).bind fun r52 =>
  (gsel false r52.2 (convA Try.prog r52.2 28 9 r52.1) r49.1).bind fun r53 =>
  (gsel false r53.2 (pv r53.2 (binA Try.prog .neq 9 r51.1 r53.1)) r49.1).bind fun r54 =>
  (pv r54.2 (pickA r49.1 (.v (Go.Value.bool true)) r54.1)).bind fun r55 =>
  condA r55.1 ((pv r55.2 (buildA Try.prog 23 [])).bind fun r56 =>
  (stA Try.prog 23 r56.2 (get (prune kp_r12_At (prune kp_r12_At (prune kp_r12_At (prune kp_r12_At (prune kp_r12_At t.env))))) 4) r56.1).bind fun r57 =>
  some (.ret, ⟨((6, (.v (Go.Value.int Go.IntKind.i64 0))) :: (5, (.v (Go.Value.int Go.IntKind.i64 2))) :: (72, r55.1) :: (14, r48.1) :: (13, r47.1) :: (12, r43.1) :: (10, r32.1) :: (40, (get t.env 8)) :: (prune kp_r12_At (prune kp_r12_At (prune kp_r12_At (prune kp_r12_At (prune kp_r12_At (prune kp_r12_At t.env))))))), r57.2⟩)) ((pv r55.2 (loadA Try.prog 23 r55.2 r43.1)).bind fun r58 =>
  (stA Try.prog 23 r58.2 (get (prune kp_r12_At (prune kp_r12_At (prune kp_r12_At (prune kp_r12_At (prune kp_r12_At t.env))))) 4) r58.1).bind fun r59 =>
  some (.ret, ⟨((6, (.v (Go.Value.int Go.IntKind.i64 0))) :: (5, (.v (Go.Value.int Go.IntKind.i64 1))) :: (72, r55.1) :: (14, r48.1) :: (13, r47.1) :: (12, r43.1) :: (10, r32.1) :: (40, (get t.env 8)) :: (prune kp_r12_At (prune kp_r12_At (prune kp_r12_At (prune kp_r12_At (prune kp_r12_At (prune kp_r12_At t.env))))))), r59.2⟩))) else some (.exit i, ⟨t.env, t.bx⟩)
noncomputable def X_r12_At_0_0 (E : FnA) (_n _n0 : Nat) (x29 x9 x8 x7 x20 x6 x5 x4 x2 x0 x1 : AV) (y : Bx) : Option (Ex × S) :=
  condA x8 ((pv y (buildA Try.prog 23 [])).bind fun r91 =>
  (stA Try.prog 23 r91.2 x4 r91.1).bind fun r92 =>
  some (.ret, ⟨[(6, (.v (Go.Value.int Go.IntKind.i64 0))), (5, (.v (Go.Value.int Go.IntKind.i64 0))), (40, x8), (29, x29), (9, x9), (8, x8), (7, x7), (20, x20), (6, x6), (5, x5), (4, x4), (2, x2), (0, x0), (1, x1)], r92.2⟩)) ((callA E md0 y 35 [x7, (.v (Go.Value.int Go.IntKind.i64 0))]).bind fun r93 =>
  (pv r93.2 (tupA r93.1 0)).bind fun r94 =>
  (pv r94.2 (tupA r93.1 1)).bind fun r95 =>
  (convA Try.prog r95.2 55 3 r94.1).bind fun r96 =>
  (pv r96.2 (indexAddrA Try.prog 28 x7 (.v (Go.Value.int Go.IntKind.i64 2)))).bind fun r97 =>
  (pv r97.2 (loadA Try.prog 5 r97.2 r97.1)).bind fun r98 =>
  (convA Try.prog r98.2 5 3 r98.1).bind fun r99 =>
  (pv r99.2 (minL false r99.1 [(.v (Go.Value.int Go.IntKind.i64 10))])).bind fun r100 =>
  (pv r100.2 (binA Try.prog .add 3 (.v (Go.Value.int Go.IntKind.i64 3)) r100.1)).bind fun r101 =>
  (pv r101.2 (sliceA Try.prog r101.2 28 x7 (some (.v (Go.Value.int Go.IntKind.i64 3))) (some r101.1) none)).bind fun r102 =>
  (convA Try.prog r102.2 28 9 r102.1).bind fun r103 =>
  (pv r103.2 (buildA Try.prog 23 [(0, r96.1), (1, r103.1)])).bind fun r104 =>
  (allocA Try.prog r104.2 23).bind fun r105 =>
  (stA Try.prog 23 r105.2 r105.1 r104.1).bind fun r106 =>
  (pv r106.2 (loadA Try.prog 23 r106.2 r105.1)).bind fun r107 =>
  (callA E md0 r107.2 9 [r107.1]).bind fun r108 =>
  (pv r108.2 (tupA r108.1 0)).bind fun r109 =>
  (pv r109.2 (tupA r108.1 1)).bind fun r110 =>
  (pv r110.2 (binA Try.prog .neq 25 r110.1 (.v (Go.Value.int Go.IntKind.i64 0)))).bind fun r111 =>
  (gsel false r111.2 (some (r109.1, r111.2)) r111.1).bind fun r112 =>
  (gsel false r112.2 (convA Try.prog r112.2 28 9 r112.1) r111.1).bind fun r113 =>
  (gsel false r113.2 (some (x7, r113.2)) r111.1).bind fun r114 =>
  (gsel false r114.2 (convA Try.prog r114.2 28 9 r114.1) r111.1).bind fun r115 =>
  (gsel false r115.2 (pv r115.2 (binA Try.prog .neq 9 r113.1 r115.1)) r111.1).bind fun r116 =>
  (pv r116.2 (pickA r111.1 (.v (Go.Value.bool true)) r116.1)).bind fun r117 =>
  condA r117.1 ((pv r117.2 (buildA Try.prog 23 [])).bind fun r118 =>
  (stA Try.prog 23 r118.2 x4 r118.1).bind fun r119 =>
  some (.ret, ⟨[(6, (.v (Go.Value.int Go.IntKind.i64 0))), (5, (.v (Go.Value.int Go.IntKind.i64 2))), (72, r117.1), (14, r110.1), (13, r109.1), (12, r105.1), (10, r94.1), (40, x8), (29, x29), (9, x9), (8, x8), (7, x7), (20, x20), (6, x6), (5, x5), (4, x4), (2, x2), (0, x0), (1, x1)], r119.2⟩)) ((pv r117.2 (loadA Try.prog 23 r117.2 r105.1)).bind fun r120 =>
  (stA Try.prog 23 r120.2 x4 r120.1).bind fun r121 =>
  some (.ret, ⟨[(6, (.v (Go.Value.int Go.IntKind.i64 0))), (5, (.v (Go.Value.int Go.IntKind.i64 1))), (72, r117.1), (14, r110.1), (13, r109.1), (12, r105.1), (10, r94.1), (40, x8), (29, x29), (9, x9), (8, x8), (7, x7), (20, x20), (6, x6), (5, x5), (4, x4), (2, x2), (0, x0), (1, x1)], r121.2⟩)))
theorem X_r12_At_0_0_lit {E : FnA} {n n0 : Nat} {x29 x9 x8 x7 x20 x6 x5 x4 x2 x0 x1 : AV} {y : Bx} {Q : Ex → S → Prop} (h : Ends (X_r12_At_0_0 E n n0 x29 x9 x8 x7 x20 x6 x5 x4 x2 x0 x1 y) Q) : Ends (X_r12_At_0 E n n0 0 ⟨[(29, x29), (9, x9), (8, x8), (7, x7), (20, x20), (6, x6), (5, x5), (4, x4), (2, x2), (0, x0), (1, x1)], y⟩) Q := by
  rw [show X_r12_At_0 E n n0 0 ⟨[(29, x29), (9, x9), (8, x8), (7, x7), (20, x20), (6, x6), (5, x5), (4, x4), (2, x2), (0, x0), (1, x1)], y⟩ = X_r12_At_0_0 E n n0 x29 x9 x8 x7 x20 x6 x5 x4 x2 x0 x1 y by kernel_rfl]
  exact h
noncomputable def F_r12_At (E : FnA) (n n0 : Nat) (a0 a1 : AV) (bx : Bx) : Option (Ex × S) :=
  (boxA bx a0).bind fun r1 =>
  (allocA Try.prog r1.2 23).bind fun r2 =>
  (pv r2.2 (binA Try.prog .lss 3 a1 (.v (Go.Value.int Go.IntKind.i64 0)))).bind fun r3 =>
  (gsel false r3.2 (some (a1, r3.2)) r3.1).bind fun r4 =>
  (gsel false r4.2 (pv r4.2 (binA Try.prog .gtr 3 r4.1 (.v (Go.Value.int Go.IntKind.i64 3)))) r3.1).bind fun r5 =>
  (pv r5.2 (pickA r3.1 (.v (Go.Value.bool true)) r5.1)).bind fun r6 =>
  condA r6.1 ((pv r6.2 (buildA Try.prog 23 [])).bind fun r7 =>
  (stA Try.prog 23 r7.2 r2.1 r7.1).bind fun r8 =>
  some (.ret, ⟨[(6, (.v (Go.Value.int Go.IntKind.i64 2))), (5, (.v (Go.Value.int Go.IntKind.i64 0))), (20, r6.1), (6, (.v (Go.Value.int Go.IntKind.i64 0))), (5, (.v (Go.Value.int Go.IntKind.i64 0))), (4, r2.1), (2, r1.1), (0, a0), (1, a1)], r8.2⟩)) ((pv r6.2 (binA Try.prog .mul 3 (.v (Go.Value.int Go.IntKind.i64 13)) a1)).bind fun r9 =>
  (pv r9.2 (binA Try.prog .mul 3 (.v (Go.Value.int Go.IntKind.i64 13)) a1)).bind fun r10 =>
  (pv r10.2 (binA Try.prog .add 3 r10.1 (.v (Go.Value.int Go.IntKind.i64 13)))).bind fun r11 =>
  (pv r11.2 (sliceA Try.prog r11.2 37 r1.1 (some r9.1) (some r11.1) none)).bind fun r12 =>
  exitA (iter ⟨[(9, (.v (Go.Value.int Go.IntKind.i64 0))), (8, (.v (Go.Value.bool true))), (7, r12.1), (20, r6.1), (6, (.v (Go.Value.int Go.IntKind.i64 0))), (5, (.v (Go.Value.int Go.IntKind.i64 0))), (4, r2.1), (2, r1.1), (0, a0), (1, a1)], r12.2⟩ (L_r12_At_0 E n n0) n ⟨[(9, (.v (Go.Value.int Go.IntKind.i64 0))), (8, (.v (Go.Value.bool true))), (7, r12.1), (20, r6.1), (6, (.v (Go.Value.int Go.IntKind.i64 0))), (5, (.v (Go.Value.int Go.IntKind.i64 0))), (4, r2.1), (2, r1.1), (0, a0), (1, a1)], r12.2⟩) (K_r12_At_0 E n n0) (X_r12_At_0 E n n0))
theorem c_r12_At_eq : Try.f24.body = some c_r12_At := by kernel_rfl
theorem d_r12_At : drawsOk Try.prog md0 c_r12_At = true := by kernel_rfl
theorem F_r12_At_eq (E : FnA) (n n0 : Nat) (a0 a1 : AV) (bx : Bx) : evK Try.prog md0 E 75 kp_r12_At n n0 c_r12_At ⟨[(0, a0), (1, a1)], bx⟩ (fun s => some (.normal, s)) (fun i s => some (.exit i, s)) = F_r12_At E n n0 a0 a1 bx := by kernel_rfl

theorem E_r12_At (n : Nat) (a0 a1 : AV) (bx : Bx) : evFn cx0 ext0 (n + 1) 24 [a0, a1] bx = fin Try.prog [.cell 4 23, .tmp 5, .tmp 6] (F_r12_At (evFn cx0 ext0 n) n bx.length a0 a1 bx) := by
  rw [evFn_eq2 (cx := cx0) (c := c_r12_At) rfl Try.func24 c_r12_At_eq (of_decide_eq_true (by kernel_rfl)) d_r12_At (of_decide_eq_true (by kernel_rfl))]
  exact congrArg (fin Try.prog [.cell 4 23, .tmp 5, .tmp 6]) (F_r12_At_eq (evFn cx0 ext0 n) n bx.length a0 a1 bx)

/-- scupper/scupperref12.With -/
def kp_r12_With : Option (List Nat) := some [0, 1, 2, 3, 5, 6, 7, 8, 9, 15, 23]
noncomputable def c_r12_With : Code := Try.f25.body.getD .skip
noncomputable def F_r12_With (E : FnA) (_n _n0 : Nat) (a0 a1 a2 : AV) (bx : Bx) : Option (Ex × S) :=
  (boxA bx a0).bind fun r1 =>
  (boxA r1.2 a2).bind fun r2 =>
  (allocA Try.prog r2.2 37).bind fun r3 =>
  (pv r3.2 (binA Try.prog .lss 3 a1 (.v (Go.Value.int Go.IntKind.i64 0)))).bind fun r4 =>
  (gsel false r4.2 (some (a1, r4.2)) r4.1).bind fun r5 =>
  (gsel false r5.2 (pv r5.2 (binA Try.prog .gtr 3 r5.1 (.v (Go.Value.int Go.IntKind.i64 3)))) r4.1).bind fun r6 =>
  (pv r6.2 (pickA r4.1 (.v (Go.Value.bool true)) r6.1)).bind fun r7 =>
  condA r7.1 ((pv r7.2 (buildA Try.prog 37 [])).bind fun r8 =>
  (stA Try.prog 37 r8.2 r3.1 r8.1).bind fun r9 =>
  some (.ret, ⟨[(7, (.v (Go.Value.int Go.IntKind.i64 2))), (15, r7.1), (7, (.v (Go.Value.int Go.IntKind.i64 0))), (6, r3.1), (5, r2.1), (3, r1.1), (0, a0), (1, a1), (2, a2)], r9.2⟩)) ((pv r7.2 (loadA Try.prog 23 r7.2 r2.1)).bind fun r10 =>
  (callA E md0 r10.2 9 [r10.1]).bind fun r11 =>
  (pv r11.2 (tupA r11.1 0)).bind fun r12 =>
  (pv r12.2 (tupA r11.1 1)).bind fun r13 =>
  (pv r13.2 (binA Try.prog .neq 25 r13.1 (.v (Go.Value.int Go.IntKind.i64 0)))).bind fun r14 =>
  condA r14.1 ((pv r14.2 (buildA Try.prog 37 [])).bind fun r15 =>
  (stA Try.prog 37 r15.2 r3.1 r15.1).bind fun r16 =>
  some (.ret, ⟨[(7, r13.1), (23, r14.1), (9, r13.1), (8, r12.1), (15, r7.1), (7, (.v (Go.Value.int Go.IntKind.i64 0))), (6, r3.1), (5, r2.1), (3, r1.1), (0, a0), (1, a1), (2, a2)], r16.2⟩)) ((pv r14.2 (loadA Try.prog 37 r14.2 r1.1)).bind fun r17 =>
  (callA E md0 r17.2 36 [r17.1, a1, r12.1]).bind fun r18 =>
  (stA Try.prog 37 r18.2 r3.1 r18.1).bind fun r19 =>
  some (.ret, ⟨[(7, (.v (Go.Value.int Go.IntKind.i64 0))), (23, r14.1), (9, r13.1), (8, r12.1), (15, r7.1), (7, (.v (Go.Value.int Go.IntKind.i64 0))), (6, r3.1), (5, r2.1), (3, r1.1), (0, a0), (1, a1), (2, a2)], r19.2⟩)))
theorem c_r12_With_eq : Try.f25.body = some c_r12_With := by kernel_rfl
theorem d_r12_With : drawsOk Try.prog md0 c_r12_With = true := by kernel_rfl
theorem F_r12_With_eq (E : FnA) (n n0 : Nat) (a0 a1 a2 : AV) (bx : Bx) : evK Try.prog md0 E 30 kp_r12_With n n0 c_r12_With ⟨[(0, a0), (1, a1), (2, a2)], bx⟩ (fun s => some (.normal, s)) (fun i s => some (.exit i, s)) = F_r12_With E n n0 a0 a1 a2 bx := by kernel_rfl

theorem E_r12_With (n : Nat) (a0 a1 a2 : AV) (bx : Bx) : evFn cx0 ext0 (n + 1) 25 [a0, a1, a2] bx = fin Try.prog [.cell 6 37, .tmp 7] (F_r12_With (evFn cx0 ext0 n) n bx.length a0 a1 a2 bx) := by
  rw [evFn_eq2 (cx := cx0) (c := c_r12_With) rfl Try.func25 c_r12_With_eq (of_decide_eq_true (by kernel_rfl)) d_r12_With (of_decide_eq_true (by kernel_rfl))]
  exact congrArg (fin Try.prog [.cell 6 37, .tmp 7]) (F_r12_With_eq (evFn cx0 ext0 n) n bx.length a0 a1 a2 bx)

/-- scupper/scupperref12.Without -/
def kp_r12_Without : Option (List Nat) := some [0, 1, 2, 4, 5, 11]
noncomputable def c_r12_Without : Code := Try.f26.body.getD .skip
noncomputable def F_r12_Without (E : FnA) (_n _n0 : Nat) (a0 a1 : AV) (bx : Bx) : Option (Ex × S) :=
  (boxA bx a0).bind fun r1 =>
  (allocA Try.prog r1.2 37).bind fun r2 =>
  (pv r2.2 (binA Try.prog .lss 3 a1 (.v (Go.Value.int Go.IntKind.i64 0)))).bind fun r3 =>
  (gsel false r3.2 (some (a1, r3.2)) r3.1).bind fun r4 =>
  (gsel false r4.2 (pv r4.2 (binA Try.prog .gtr 3 r4.1 (.v (Go.Value.int Go.IntKind.i64 3)))) r3.1).bind fun r5 =>
  (pv r5.2 (pickA r3.1 (.v (Go.Value.bool true)) r5.1)).bind fun r6 =>
  condA r6.1 ((pv r6.2 (buildA Try.prog 37 [])).bind fun r7 =>
  (stA Try.prog 37 r7.2 r2.1 r7.1).bind fun r8 =>
  some (.ret, ⟨[(5, (.v (Go.Value.int Go.IntKind.i64 2))), (11, r6.1), (5, (.v (Go.Value.int Go.IntKind.i64 0))), (4, r2.1), (2, r1.1), (0, a0), (1, a1)], r8.2⟩)) ((makeSliceA Try.prog r6.2 28 (.v (Go.Value.int Go.IntKind.i64 13)) (.v (Go.Value.int Go.IntKind.i64 13))).bind fun r9 =>
  (pv r9.2 (loadA Try.prog 37 r9.2 r1.1)).bind fun r10 =>
  (callA E md0 r10.2 36 [r10.1, a1, r9.1]).bind fun r11 =>
  (stA Try.prog 37 r11.2 r2.1 r11.1).bind fun r12 =>
  some (.ret, ⟨[(5, (.v (Go.Value.int Go.IntKind.i64 0))), (11, r6.1), (5, (.v (Go.Value.int Go.IntKind.i64 0))), (4, r2.1), (2, r1.1), (0, a0), (1, a1)], r12.2⟩))
theorem c_r12_Without_eq : Try.f26.body = some c_r12_Without := by kernel_rfl
theorem d_r12_Without : drawsOk Try.prog md0 c_r12_Without = true := by kernel_rfl
theorem F_r12_Without_eq (E : FnA) (n n0 : Nat) (a0 a1 : AV) (bx : Bx) : evK Try.prog md0 E 17 kp_r12_Without n n0 c_r12_Without ⟨[(0, a0), (1, a1)], bx⟩ (fun s => some (.normal, s)) (fun i s => some (.exit i, s)) = F_r12_Without E n n0 a0 a1 bx := by kernel_rfl

theorem E_r12_Without (n : Nat) (a0 a1 : AV) (bx : Bx) : evFn cx0 ext0 (n + 1) 26 [a0, a1] bx = fin Try.prog [.cell 4 37, .tmp 5] (F_r12_Without (evFn cx0 ext0 n) n bx.length a0 a1 bx) := by
  rw [evFn_eq2 (cx := cx0) (c := c_r12_Without) rfl Try.func26 c_r12_Without_eq (of_decide_eq_true (by kernel_rfl)) d_r12_Without (of_decide_eq_true (by kernel_rfl))]
  exact congrArg (fin Try.prog [.cell 4 37, .tmp 5]) (F_r12_Without_eq (evFn cx0 ext0 n) n bx.length a0 a1 bx)

/-- scupper/dirent.Offset -/
def kp_dirent_Offset : Option (List Nat) := some [0, 2, 3, 6]
noncomputable def c_dirent_Offset : Code := Try.f27.body.getD .skip
noncomputable def F_dirent_Offset (E : FnA) (_n _n0 : Nat) (a0 : AV) (bx : Bx) : Option (Ex × S) :=
  (callA E md0 bx 30 [a0]).bind fun r1 =>
  (pv r1.2 (unA .not r1.1)).bind fun r2 =>
  condA r2.1 (some (.ret, ⟨[(3, (.v (Go.Value.int Go.IntKind.i64 2))), (2, (.v (Go.Value.int Go.IntKind.i64 0))), (6, r2.1), (3, (.v (Go.Value.int Go.IntKind.i64 0))), (2, (.v (Go.Value.int Go.IntKind.i64 0))), (0, a0)], r2.2⟩)) ((pv r2.2 (binA Try.prog .mul 3 (.v (Go.Value.int Go.IntKind.i64 13)) a0)).bind fun r3 =>
  some (.ret, ⟨[(3, (.v (Go.Value.int Go.IntKind.i64 0))), (2, r3.1), (6, r2.1), (3, (.v (Go.Value.int Go.IntKind.i64 0))), (2, (.v (Go.Value.int Go.IntKind.i64 0))), (0, a0)], r3.2⟩))
theorem c_dirent_Offset_eq : Try.f27.body = some c_dirent_Offset := by kernel_rfl
theorem d_dirent_Offset : drawsOk Try.prog md0 c_dirent_Offset = true := by kernel_rfl
theorem F_dirent_Offset_eq (E : FnA) (n n0 : Nat) (a0 : AV) (bx : Bx) : evK Try.prog md0 E 9 kp_dirent_Offset n n0 c_dirent_Offset ⟨[(0, a0)], bx⟩ (fun s => some (.normal, s)) (fun i s => some (.exit i, s)) = F_dirent_Offset E n n0 a0 bx := by kernel_rfl

theorem E_dirent_Offset (n : Nat) (a0 : AV) (bx : Bx) : evFn cx0 ext0 (n + 1) 27 [a0] bx = fin Try.prog [.tmp 2, .tmp 3] (F_dirent_Offset (evFn cx0 ext0 n) n bx.length a0 bx) := by
  rw [evFn_eq2 (cx := cx0) (c := c_dirent_Offset) rfl Try.func27 c_dirent_Offset_eq (of_decide_eq_true (by kernel_rfl)) d_dirent_Offset (of_decide_eq_true (by kernel_rfl))]
  exact congrArg (fin Try.prog [.tmp 2, .tmp 3]) (F_dirent_Offset_eq (evFn cx0 ext0 n) n bx.length a0 bx)

/-- scupper/num.Put16 -/
def kp_num_Put16 : Option (List Nat) := some [0, 2]
noncomputable def c_num_Put16 : Code := Try.f28.body.getD .skip
noncomputable def F_num_Put16 (_E : FnA) (_n _n0 : Nat) (a0 : AV) (bx : Bx) : Option (Ex × S) :=
  (allocA Try.prog bx 53).bind fun r1 =>
  (convA Try.prog r1.2 55 5 a0).bind fun r2 =>
  (pv r2.2 (binA Try.prog .shr 55 a0 (.v (Go.Value.int Go.IntKind.u64 8)))).bind fun r3 =>
  (convA Try.prog r3.2 55 5 r3.1).bind fun r4 =>
  (pv r4.2 (buildA Try.prog 53 [(0, r2.1), (1, r4.1)])).bind fun r5 =>
  (stA Try.prog 53 r5.2 r1.1 r5.1).bind fun r6 =>
  some (.ret, ⟨[(2, r1.1), (0, a0)], r6.2⟩)
theorem c_num_Put16_eq : Try.f28.body = some c_num_Put16 := by kernel_rfl
theorem d_num_Put16 : drawsOk Try.prog md0 c_num_Put16 = true := by kernel_rfl
theorem F_num_Put16_eq (E : FnA) (n n0 : Nat) (a0 : AV) (bx : Bx) : evK Try.prog md0 E 9 kp_num_Put16 n n0 c_num_Put16 ⟨[(0, a0)], bx⟩ (fun s => some (.normal, s)) (fun i s => some (.exit i, s)) = F_num_Put16 E n n0 a0 bx := by kernel_rfl

theorem E_num_Put16 (n : Nat) (a0 : AV) (bx : Bx) : evFn cx0 ext0 (n + 1) 28 [a0] bx = fin Try.prog [.cell 2 53] (F_num_Put16 (evFn cx0 ext0 n) n bx.length a0 bx) := by
  rw [evFn_eq2 (cx := cx0) (c := c_num_Put16) rfl Try.func28 c_num_Put16_eq (of_decide_eq_true (by kernel_rfl)) d_num_Put16 (of_decide_eq_true (by kernel_rfl))]
  exact congrArg (fin Try.prog [.cell 2 53]) (F_num_Put16_eq (evFn cx0 ext0 n) n bx.length a0 bx)

/-- scupper/scupperref01.Put16 -/
def kp_r01_Put16 : Option (List Nat) := some [0, 2]
noncomputable def c_r01_Put16 : Code := Try.f29.body.getD .skip
noncomputable def F_r01_Put16 (_E : FnA) (_n _n0 : Nat) (a0 : AV) (bx : Bx) : Option (Ex × S) :=
  (some (AV.bsl (List.length bx) 0 0 0, bx ++ [[]])).bind fun r1 =>
  (pv r1.2 (binA Try.prog .rem 55 a0 (.v (Go.Value.int Go.IntKind.u16 256)))).bind fun r2 =>
  (convA Try.prog r2.2 55 5 r2.1).bind fun r3 =>
  (pv r3.2 (binA Try.prog .quo 55 a0 (.v (Go.Value.int Go.IntKind.u16 256)))).bind fun r4 =>
  (convA Try.prog r4.2 55 5 r4.1).bind fun r5 =>
  (buildSliceA Try.prog r5.2 28 2 [(0, r3.1), (1, r5.1)]).bind fun r6 =>
  some (.ret, ⟨[(2, r6.1), (2, r1.1), (0, a0)], r6.2⟩)
theorem c_r01_Put16_eq : Try.f29.body = some c_r01_Put16 := by kernel_rfl
theorem d_r01_Put16 : drawsOk Try.prog md0 c_r01_Put16 = true := by kernel_rfl
theorem F_r01_Put16_eq (E : FnA) (n n0 : Nat) (a0 : AV) (bx : Bx) : evK Try.prog md0 E 10 kp_r01_Put16 n n0 c_r01_Put16 ⟨[(0, a0)], bx⟩ (fun s => some (.normal, s)) (fun i s => some (.exit i, s)) = F_r01_Put16 E n n0 a0 bx := by kernel_rfl

theorem E_r01_Put16 (n : Nat) (a0 : AV) (bx : Bx) : evFn cx0 ext0 (n + 1) 29 [a0] bx = fin Try.prog [.tmp 2] (F_r01_Put16 (evFn cx0 ext0 n) n bx.length a0 bx) := by
  rw [evFn_eq2 (cx := cx0) (c := c_r01_Put16) rfl Try.func29 c_r01_Put16_eq (of_decide_eq_true (by kernel_rfl)) d_r01_Put16 (of_decide_eq_true (by kernel_rfl))]
  exact congrArg (fin Try.prog [.tmp 2]) (F_r01_Put16_eq (evFn cx0 ext0 n) n bx.length a0 bx)

/-- scupper/dirent.slot -/
def kp_dirent_slot : Option (List Nat) := some [0, 2]
noncomputable def c_dirent_slot : Code := Try.f30.body.getD .skip
noncomputable def F_dirent_slot (_E : FnA) (_n _n0 : Nat) (a0 : AV) (bx : Bx) : Option (Ex × S) :=
  (pv bx (binA Try.prog .geq 3 a0 (.v (Go.Value.int Go.IntKind.i64 0)))).bind fun r1 =>
  (gsel true r1.2 (some (a0, r1.2)) r1.1).bind fun r2 =>
  (gsel true r2.2 (pv r2.2 (binA Try.prog .lss 3 r2.1 (.v (Go.Value.int Go.IntKind.i64 4)))) r1.1).bind fun r3 =>
  (pv r3.2 (pickA r1.1 r3.1 (.v (Go.Value.bool false)))).bind fun r4 =>
  some (.ret, ⟨[(2, r4.1), (2, (.v (Go.Value.bool false))), (0, a0)], r4.2⟩)
theorem c_dirent_slot_eq : Try.f30.body = some c_dirent_slot := by kernel_rfl
theorem d_dirent_slot : drawsOk Try.prog md0 c_dirent_slot = true := by kernel_rfl
theorem F_dirent_slot_eq (E : FnA) (n n0 : Nat) (a0 : AV) (bx : Bx) : evK Try.prog md0 E 9 kp_dirent_slot n n0 c_dirent_slot ⟨[(0, a0)], bx⟩ (fun s => some (.normal, s)) (fun i s => some (.exit i, s)) = F_dirent_slot E n n0 a0 bx := by kernel_rfl

theorem E_dirent_slot (n : Nat) (a0 : AV) (bx : Bx) : evFn cx0 ext0 (n + 1) 30 [a0] bx = fin Try.prog [.tmp 2] (F_dirent_slot (evFn cx0 ext0 n) n bx.length a0 bx) := by
  rw [evFn_eq2 (cx := cx0) (c := c_dirent_slot) rfl Try.func30 c_dirent_slot_eq (of_decide_eq_true (by kernel_rfl)) d_dirent_slot (of_decide_eq_true (by kernel_rfl))]
  exact congrArg (fin Try.prog [.tmp 2]) (F_dirent_slot_eq (evFn cx0 ext0 n) n bx.length a0 bx)

/-- scupper/dirent.read -/
def kp_dirent_read : Option (List Nat) := some [0, 1, 2, 3, 4, 6, 7, 8, 11, 39]
noncomputable def c_dirent_read : Code := Try.f31.body.getD .skip
noncomputable def F_dirent_read (E : FnA) (_n _n0 : Nat) (a0 : AV) (bx : Bx) : Option (Ex × S) :=
  (boxA bx a0).bind fun r1 =>
  (allocA Try.prog r1.2 23).bind fun r2 =>
  (pv r2.2 (loadA Try.prog 24 r2.2 r1.1)).bind fun r3 =>
  (pv r3.2 (buildA Try.prog 24 [])).bind fun r4 =>
  (pv r4.2 (binA Try.prog .eql 24 r3.1 r4.1)).bind fun r5 =>
  condA r5.1 ((pv r5.2 (buildA Try.prog 23 [])).bind fun r6 =>
  (stA Try.prog 23 r6.2 r2.1 r6.1).bind fun r7 =>
  some (.ret, ⟨[(3, (.v (Go.Value.int Go.IntKind.i64 0))), (11, r5.1), (3, (.v (Go.Value.int Go.IntKind.i64 0))), (2, r2.1), (1, r1.1), (0, a0)], r7.2⟩)) ((pv r5.2 (sliceA Try.prog r5.2 24 r1.1 none none none)).bind fun r8 =>
  (callA E md0 r8.2 37 [r8.1, (.v (Go.Value.int Go.IntKind.i64 0))]).bind fun r9 =>
  (pv r9.2 (tupA r9.1 0)).bind fun r10 =>
  (pv r10.2 (tupA r9.1 1)).bind fun r11 =>
  (convA Try.prog r11.2 55 3 r10.1).bind fun r12 =>
  (pv r12.2 (indexAddrA Try.prog 24 r1.1 (.v (Go.Value.int Go.IntKind.i64 2)))).bind fun r13 =>
  (pv r13.2 (loadA Try.prog 5 r13.2 r13.1)).bind fun r14 =>
  (convA Try.prog r14.2 5 3 r14.1).bind fun r15 =>
  (pv r15.2 (binA Try.prog .add 3 (.v (Go.Value.int Go.IntKind.i64 3)) r15.1)).bind fun r16 =>
  (pv r16.2 (minL false r16.1 [(.v (Go.Value.int Go.IntKind.i64 13))])).bind fun r17 =>
  (pv r17.2 (sliceA Try.prog r17.2 24 r1.1 (some (.v (Go.Value.int Go.IntKind.i64 3))) (some r17.1) none)).bind fun r18 =>
  (convA Try.prog r18.2 28 9 r18.1).bind fun r19 =>
  (pv r19.2 (buildA Try.prog 23 [(0, r12.1), (1, r19.1)])).bind fun r20 =>
  (allocA Try.prog r20.2 23).bind fun r21 =>
  (stA Try.prog 23 r21.2 r21.1 r20.1).bind fun r22 =>
  (pv r22.2 (loadA Try.prog 23 r22.2 r21.1)).bind fun r23 =>
  (callA E md0 r23.2 8 [r23.1]).bind fun r24 =>
  (pv r24.2 (tupA r24.1 0)).bind fun r25 =>
  (pv r25.2 (tupA r24.1 1)).bind fun r26 =>
  (allocA Try.prog r26.2 24).bind fun r27 =>
  (stA Try.prog 24 r27.2 r27.1 r25.1).bind fun r28 =>
  (pv r28.2 (binA Try.prog .neq 25 r26.1 (.v (Go.Value.int Go.IntKind.i64 0)))).bind fun r29 =>
  (gsel false r29.2 (pv r29.2 (loadA Try.prog 24 r29.2 r27.1)) r29.1).bind fun r30 =>
  (gsel false r30.2 (pv r30.2 (loadA Try.prog 24 r30.2 r1.1)) r29.1).bind fun r31 =>
  (gsel false r31.2 (pv r31.2 (binA Try.prog .neq 24 r30.1 r31.1)) r29.1).bind fun r32 =>
  (pv r32.2 (pickA r29.1 (.v (Go.Value.bool true)) r32.1)).bind fun r33 =>
  condA r33.1 ((pv r33.2 (buildA Try.prog 23 [])).bind fun r34 =>
  (stA Try.prog 23 r34.2 r2.1 r34.1).bind fun r35 =>
  some (.ret, ⟨[(3, (.v (Go.Value.int Go.IntKind.i64 2))), (39, r33.1), (8, r26.1), (7, r27.1), (6, r21.1), (4, r10.1), (11, r5.1), (3, (.v (Go.Value.int Go.IntKind.i64 0))), (2, r2.1), (1, r1.1), (0, a0)], r35.2⟩)) ((pv r33.2 (loadA Try.prog 23 r33.2 r21.1)).bind fun r36 =>
  (stA Try.prog 23 r36.2 r2.1 r36.1).bind fun r37 =>
  some (.ret, ⟨[(3, (.v (Go.Value.int Go.IntKind.i64 1))), (39, r33.1), (8, r26.1), (7, r27.1), (6, r21.1), (4, r10.1), (11, r5.1), (3, (.v (Go.Value.int Go.IntKind.i64 0))), (2, r2.1), (1, r1.1), (0, a0)], r37.2⟩)))
theorem c_dirent_read_eq : Try.f31.body = some c_dirent_read := by kernel_rfl
theorem d_dirent_read : drawsOk Try.prog md0 c_dirent_read = true := by kernel_rfl
theorem F_dirent_read_eq (E : FnA) (n n0 : Nat) (a0 : AV) (bx : Bx) : evK Try.prog md0 E 42 kp_dirent_read n n0 c_dirent_read ⟨[(0, a0)], bx⟩ (fun s => some (.normal, s)) (fun i s => some (.exit i, s)) = F_dirent_read E n n0 a0 bx := by kernel_rfl

theorem E_dirent_read (n : Nat) (a0 : AV) (bx : Bx) : evFn cx0 ext0 (n + 1) 31 [a0] bx = fin Try.prog [.cell 2 23, .tmp 3] (F_dirent_read (evFn cx0 ext0 n) n bx.length a0 bx) := by
  rw [evFn_eq2 (cx := cx0) (c := c_dirent_read) rfl Try.func31 c_dirent_read_eq (of_decide_eq_true (by kernel_rfl)) d_dirent_read (of_decide_eq_true (by kernel_rfl))]
  exact congrArg (fin Try.prog [.cell 2 23, .tmp 3]) (F_dirent_read_eq (evFn cx0 ext0 n) n bx.length a0 bx)

/-- scupper/dirent.first -/
def kp_dirent_first : Option (List Nat) := some [0, 1, 2, 4, 5, 6, 7, 9, 10, 22]
noncomputable def c_dirent_first : Code := Try.f32.body.getD .skip
noncomputable def L_dirent_first_0 (E : FnA) (_n _n0 : Nat) (s : S) : Option (Ex × S) :=
  (pv s.bx (binA Try.prog .lss 3 (get s.env 9) (.v (Go.Value.int Go.IntKind.i64 4)))).bind fun r13 =>
  condA r13.1 ((pv r13.2 (loadA Try.prog 37 r13.2 (get (prune kp_dirent_first (prune kp_dirent_first s.env)) 2))).bind fun r14 =>
  (callA E md_dirent_first r14.2 17 [r14.1, (get (prune kp_dirent_first s.env) 9)]).bind fun r15 =>
  (pv r15.2 (tupA r15.1 0)).bind fun r16 =>
  (pv r16.2 (tupA r15.1 1)).bind fun r17 =>
  (pv r17.2 (tupA r15.1 2)).bind fun r18 =>
  (allocA Try.prog r18.2 23).bind fun r19 =>
  (stA Try.prog 23 r19.2 r19.1 r16.1).bind fun r20 =>
  (pv r20.2 (loadA Try.prog 23 r20.2 r19.1)).bind fun r21 =>
  (callV E (mdV md_dirent_first) r21.2 [r21.1, r17.1] (get (prune kp_dirent_first (prune kp_dirent_first (prune kp_dirent_first s.env))) 1)).bind fun r22 =>
  condA r22.1 (some (.ret, ⟨((4, (get (prune kp_dirent_first s.env) 9)) :: (22, r22.1) :: (7, r17.1) :: (6, r19.1) :: (5, (get (prune kp_dirent_first s.env) 9)) :: (10, r13.1) :: (prune kp_dirent_first (prune kp_dirent_first (prune kp_dirent_first (prune kp_dirent_first (prune kp_dirent_first s.env)))))), r22.2⟩)) ((pv r22.2 (binA Try.prog .add 3 (get (prune kp_dirent_first (prune kp_dirent_first (prune kp_dirent_first (prune kp_dirent_first s.env)))) 9) (.v (Go.Value.int Go.IntKind.i64 1)))).bind fun r23 =>
  some (.normal, ⟨((9, r23.1) :: (22, r22.1) :: (7, r17.1) :: (6, r19.1) :: (5, (get (prune kp_dirent_first s.env) 9)) :: (10, r13.1) :: (prune kp_dirent_first (prune kp_dirent_first (prune kp_dirent_first (prune kp_dirent_first (prune kp_dirent_first s.env)))))), r23.2⟩))) (some (.exit 0, ⟨((10, r13.1) :: (prune kp_dirent_first s.env)), r13.2⟩))
noncomputable def B_dirent_first_0 (E : FnA) (_n _n0 : Nat) (x9 x4 x2 x0 x1 : AV) (y : Bx) : Option (Ex × S) :=
  (pv y (binA Try.prog .lss 3 x9 (.v (Go.Value.int Go.IntKind.i64 4)))).bind fun r2 =>
  condA r2.1 ((pv r2.2 (loadA Try.prog 37 r2.2 x2)).bind fun r3 =>
  (callA E md_dirent_first r3.2 17 [r3.1, x9]).bind fun r4 =>
  (pv r4.2 (tupA r4.1 0)).bind fun r5 =>
  (pv r5.2 (tupA r4.1 1)).bind fun r6 =>
  (pv r6.2 (tupA r4.1 2)).bind fun r7 =>
  (allocA Try.prog r7.2 23).bind fun r8 =>
  (stA Try.prog 23 r8.2 r8.1 r5.1).bind fun r9 =>
  (pv r9.2 (loadA Try.prog 23 r9.2 r8.1)).bind fun r10 =>
  (callV E (mdV md_dirent_first) r10.2 [r10.1, r6.1] x1).bind fun r11 =>
  condA r11.1 (some (.ret, ⟨[(4, x9), (22, r11.1), (7, r6.1), (6, r8.1), (5, x9), (10, r2.1), (9, x9), (4, x4), (2, x2), (0, x0), (1, x1)], r11.2⟩)) ((pv r11.2 (binA Try.prog .add 3 x9 (.v (Go.Value.int Go.IntKind.i64 1)))).bind fun r12 =>
  some (.normal, ⟨[(9, r12.1), (22, r11.1), (7, r6.1), (6, r8.1), (5, x9), (10, r2.1), (9, x9), (4, x4), (2, x2), (0, x0), (1, x1)], r12.2⟩))) (some (.exit 0, ⟨[(10, r2.1), (9, x9), (4, x4), (2, x2), (0, x0), (1, x1)], r2.2⟩))
theorem L_dirent_first_0_lit {E : FnA} {n n0 : Nat} {x9 x4 x2 x0 x1 : AV} {y : Bx} {Q : Ex → S → Prop} (h : Ends (B_dirent_first_0 E n n0 x9 x4 x2 x0 x1 y) Q) : Ends (L_dirent_first_0 E n n0 ⟨[(9, x9), (4, x4), (2, x2), (0, x0), (1, x1)], y⟩) Q := by
  rw [show L_dirent_first_0 E n n0 ⟨[(9, x9), (4, x4), (2, x2), (0, x0), (1, x1)], y⟩ = B_dirent_first_0 E n n0 x9 x4 x2 x0 x1 y by kernel_rfl]
  exact h
noncomputable def K_dirent_first_0 (_E : FnA) (_n _n0 : Nat) (t : S) : Option (Ex × S) :=
  some (.ret, ⟨((4, (.v (Go.Value.int Go.IntKind.i64 (-1)))) :: (prune kp_dirent_first t.env)), t.bx⟩)
noncomputable def X_dirent_first_0 (_E : FnA) (_n _n0 : Nat) (i : Nat) (t : S) : Option (Ex × S) :=
  if i = 0 then some (.ret, ⟨((4, (.v (Go.Value.int Go.IntKind.i64 (-1)))) :: (prune kp_dirent_first t.env)), t.bx⟩) else some (.exit i, ⟨t.env, t.bx⟩)
noncomputable def X_dirent_first_0_0 (_E : FnA) (_n _n0 : Nat) (x10 x9 x4 x2 x0 x1 : AV) (y : Bx) : Option (Ex × S) :=
  some (.ret, ⟨[(4, (.v (Go.Value.int Go.IntKind.i64 (-1)))), (10, x10), (9, x9), (4, x4), (2, x2), (0, x0), (1, x1)], y⟩)
theorem X_dirent_first_0_0_lit {E : FnA} {n n0 : Nat} {x10 x9 x4 x2 x0 x1 : AV} {y : Bx} {Q : Ex → S → Prop} (h : Ends (X_dirent_first_0_0 E n n0 x10 x9 x4 x2 x0 x1 y) Q) : Ends (X_dirent_first_0 E n n0 0 ⟨[(10, x10), (9, x9), (4, x4), (2, x2), (0, x0), (1, x1)], y⟩) Q := by
  rw [show X_dirent_first_0 E n n0 0 ⟨[(10, x10), (9, x9), (4, x4), (2, x2), (0, x0), (1, x1)], y⟩ = X_dirent_first_0_0 E n n0 x10 x9 x4 x2 x0 x1 y by kernel_rfl]
  exact h
noncomputable def F_dirent_first (E : FnA) (n n0 : Nat) (a0 a1 : AV) (bx : Bx) : Option (Ex × S) :=
  (boxA bx a0).bind fun r1 =>
  exitA (iter ⟨[(9, (.v (Go.Value.int Go.IntKind.i64 0))), (4, (.v (Go.Value.int Go.IntKind.i64 0))), (2, r1.1), (0, a0), (1, a1)], r1.2⟩ (L_dirent_first_0 E n n0) n ⟨[(9, (.v (Go.Value.int Go.IntKind.i64 0))), (4, (.v (Go.Value.int Go.IntKind.i64 0))), (2, r1.1), (0, a0), (1, a1)], r1.2⟩) (K_dirent_first_0 E n n0) (X_dirent_first_0 E n n0)
theorem c_dirent_first_eq : Try.f32.body = some c_dirent_first := by kernel_rfl
theorem d_dirent_first : drawsOk Try.prog md_dirent_first c_dirent_first = true := by kernel_rfl
theorem F_dirent_first_eq (E : FnA) (n n0 : Nat) (a0 a1 : AV) (bx : Bx) : evK Try.prog md_dirent_first E 25 kp_dirent_first n n0 c_dirent_first ⟨[(0, a0), (1, a1)], bx⟩ (fun s => some (.normal, s)) (fun i s => some (.exit i, s)) = F_dirent_first E n n0 a0 a1 bx := by kernel_rfl

theorem E_dirent_first (n : Nat) (a0 a1 : AV) (bx : Bx) : evFn cx0 ext0 (n + 1) 32 [a0, a1] bx = fin Try.prog [.tmp 4] (F_dirent_first (evFn cx0 ext0 n) n bx.length a0 a1 bx) := by
  rw [evFn_eq2 (cx := cx0) (c := c_dirent_first) rfl Try.func32 c_dirent_first_eq (of_decide_eq_true (by kernel_rfl)) d_dirent_first (of_decide_eq_true (by kernel_rfl))]
  exact congrArg (fin Try.prog [.tmp 4]) (F_dirent_first_eq (evFn cx0 ext0 n) n bx.length a0 a1 bx)

/-- scupper/dirent.Find$1 -/
def kp_dirent_Find_1 : Option (List Nat) := some [0, 1, 2, 3, 5]
noncomputable def c_dirent_Find_1 : Code := Try.f33.body.getD .skip
noncomputable def F_dirent_Find_1 (_E : FnA) (_n _n0 : Nat) (a0 a1 a2 : AV) (bx : Bx) : Option (Ex × S) :=
  (boxA bx a0).bind fun r1 =>
  (pv r1.2 (binA Try.prog .eql 3 a1 (.v (Go.Value.int Go.IntKind.i64 1)))).bind fun r2 =>
  (gsel true r2.2 (pv r2.2 (fieldAddrA Try.prog 23 r1.1 1)) r2.1).bind fun r3 =>
  (gsel true r3.2 (pv r3.2 (loadA Try.prog 9 r3.2 r3.1)) r2.1).bind fun r4 =>
  (gsel true r4.2 (pv r4.2 (loadA Try.prog 9 r4.2 a2)) r2.1).bind fun r5 =>
  (gsel true r5.2 (pv r5.2 (binA Try.prog .eql 9 r4.1 r5.1)) r2.1).bind fun r6 =>
  (pv r6.2 (pickA r2.1 r6.1 (.v (Go.Value.bool false)))).bind fun r7 =>
  some (.ret, ⟨[(5, r7.1), (5, (.v (Go.Value.bool false))), (3, r1.1), (0, a0), (1, a1), (2, a2)], r7.2⟩)
theorem c_dirent_Find_1_eq : Try.f33.body = some c_dirent_Find_1 := by kernel_rfl
theorem d_dirent_Find_1 : drawsOk Try.prog md0 c_dirent_Find_1 = true := by kernel_rfl
theorem F_dirent_Find_1_eq (E : FnA) (n n0 : Nat) (a0 a1 a2 : AV) (bx : Bx) : evK Try.prog md0 E 14 kp_dirent_Find_1 n n0 c_dirent_Find_1 ⟨[(0, a0), (1, a1), (2, a2)], bx⟩ (fun s => some (.normal, s)) (fun i s => some (.exit i, s)) = F_dirent_Find_1 E n n0 a0 a1 a2 bx := by kernel_rfl

theorem E_dirent_Find_1 (n : Nat) (a0 a1 a2 : AV) (bx : Bx) : evFn cx0 ext0 (n + 1) 33 [a0, a1, a2] bx = fin Try.prog [.tmp 5] (F_dirent_Find_1 (evFn cx0 ext0 n) n bx.length a0 a1 a2 bx) := by
  rw [evFn_eq2 (cx := cx0) (c := c_dirent_Find_1) rfl Try.func33 c_dirent_Find_1_eq (of_decide_eq_true (by kernel_rfl)) d_dirent_Find_1 (of_decide_eq_true (by kernel_rfl))]
  exact congrArg (fin Try.prog [.tmp 5]) (F_dirent_Find_1_eq (evFn cx0 ext0 n) n bx.length a0 a1 a2 bx)

/-- scupper/dirent.Room$1 -/
def kp_dirent_Room_1 : Option (List Nat) := some [0, 1, 4]
noncomputable def c_dirent_Room_1 : Code := Try.f34.body.getD .skip
noncomputable def F_dirent_Room_1 (_E : FnA) (_n _n0 : Nat) (a0 a1 : AV) (bx : Bx) : Option (Ex × S) :=
  (boxA bx a0).bind fun r1 =>
  (pv r1.2 (binA Try.prog .eql 3 a1 (.v (Go.Value.int Go.IntKind.i64 0)))).bind fun r2 =>
  some (.ret, ⟨[(4, r2.1), (4, (.v (Go.Value.bool false))), (0, a0), (1, a1)], r2.2⟩)
theorem c_dirent_Room_1_eq : Try.f34.body = some c_dirent_Room_1 := by kernel_rfl
theorem d_dirent_Room_1 : drawsOk Try.prog md0 c_dirent_Room_1 = true := by kernel_rfl
theorem F_dirent_Room_1_eq (E : FnA) (n n0 : Nat) (a0 a1 : AV) (bx : Bx) : evK Try.prog md0 E 7 kp_dirent_Room_1 n n0 c_dirent_Room_1 ⟨[(0, a0), (1, a1)], bx⟩ (fun s => some (.normal, s)) (fun i s => some (.exit i, s)) = F_dirent_Room_1 E n n0 a0 a1 bx := by kernel_rfl

theorem E_dirent_Room_1 (n : Nat) (a0 a1 : AV) (bx : Bx) : evFn cx0 ext0 (n + 1) 34 [a0, a1] bx = fin Try.prog [.tmp 4] (F_dirent_Room_1 (evFn cx0 ext0 n) n bx.length a0 a1 bx) := by
  rw [evFn_eq2 (cx := cx0) (c := c_dirent_Room_1) rfl Try.func34 c_dirent_Room_1_eq (of_decide_eq_true (by kernel_rfl)) d_dirent_Room_1 (of_decide_eq_true (by kernel_rfl))]
  exact congrArg (fin Try.prog [.tmp 4]) (F_dirent_Room_1_eq (evFn cx0 ext0 n) n bx.length a0 a1 bx)

/-- scupper/scupperref01.Get16 -/
def kp_r01_Get16 : Option (List Nat) := some [0, 1, 4, 5, 6, 7]
noncomputable def c_r01_Get16 : Code := Try.f35.body.getD .skip
noncomputable def F_r01_Get16 (E : FnA) (_n _n0 : Nat) (a0 a1 : AV) (bx : Bx) : Option (Ex × S) :=
  (callA E md0 bx 38 [a0, a1, (.v (Go.Value.int Go.IntKind.i64 2))]).bind fun r1 =>
  (pv r1.2 (tupA r1.1 0)).bind fun r2 =>
  (pv r2.2 (tupA r1.1 1)).bind fun r3 =>
  (convA Try.prog r3.2 57 55 r2.1).bind fun r4 =>
  some (.ret, ⟨[(5, r3.1), (4, r4.1), (7, r3.1), (6, r2.1), (5, (.v (Go.Value.int Go.IntKind.i64 0))), (4, (.v (Go.Value.int Go.IntKind.u16 0))), (0, a0), (1, a1)], r4.2⟩)
theorem c_r01_Get16_eq : Try.f35.body = some c_r01_Get16 := by kernel_rfl
theorem d_r01_Get16 : drawsOk Try.prog md0 c_r01_Get16 = true := by kernel_rfl
theorem F_r01_Get16_eq (E : FnA) (n n0 : Nat) (a0 a1 : AV) (bx : Bx) : evK Try.prog md0 E 17 kp_r01_Get16 n n0 c_r01_Get16 ⟨[(0, a0), (1, a1)], bx⟩ (fun s => some (.normal, s)) (fun i s => some (.exit i, s)) = F_r01_Get16 E n n0 a0 a1 bx := by kernel_rfl

theorem E_r01_Get16 (n : Nat) (a0 a1 : AV) (bx : Bx) : evFn cx0 ext0 (n + 1) 35 [a0, a1] bx = fin Try.prog [.tmp 4, .tmp 5] (F_r01_Get16 (evFn cx0 ext0 n) n bx.length a0 a1 bx) := by
  rw [evFn_eq2 (cx := cx0) (c := c_r01_Get16) rfl Try.func35 c_r01_Get16_eq (of_decide_eq_true (by kernel_rfl)) d_r01_Get16 (of_decide_eq_true (by kernel_rfl))]
  exact congrArg (fin Try.prog [.tmp 4, .tmp 5]) (F_r01_Get16_eq (evFn cx0 ext0 n) n bx.length a0 a1 bx)

/-- scupper/scupperref12.put -/
def kp_r12_put : Option (List Nat) := some [0, 1, 2, 3, 6, 7, 8, 11]
noncomputable def c_r12_put : Code := Try.f36.body.getD .skip
noncomputable def L_r12_put_0 (_E : FnA) (_n _n0 : Nat) (s : S) : Option (Ex × S) :=
  (pv s.bx (binA Try.prog .lss 3 (get s.env 8) (.v (Go.Value.int Go.IntKind.i64 13)))).bind fun r14 =>
  condA r14.1 ((pv r14.2 (binA Try.prog .mul 3 (.v (Go.Value.int Go.IntKind.i64 13)) (get (prune kp_r12_put s.env) 1))).bind fun r15 =>
  (pv r15.2 (binA Try.prog .add 3 r15.1 (get (prune kp_r12_put s.env) 8))).bind fun r16 =>
  (pv r16.2 (indexAddrA Try.prog 28 (get (prune kp_r12_put s.env) 2) (get (prune kp_r12_put s.env) 8))).bind fun r17 =>
  (pv r17.2 (loadA Try.prog 5 r17.2 r17.1)).bind fun r18 =>
  (pv r18.2 (indexAddrA Try.prog 37 (get (prune kp_r12_put s.env) 7) r16.1)).bind fun r19 =>
  (stA Try.prog 5 r19.2 r19.1 r18.1).bind fun r20 =>
  (pv r20.2 (binA Try.prog .add 3 (get (prune kp_r12_put (prune kp_r12_put s.env)) 8) (.v (Go.Value.int Go.IntKind.i64 1)))).bind fun r21 =>
  some (.normal, ⟨((8, r21.1) :: (11, r14.1) :: (prune kp_r12_put (prune kp_r12_put (prune kp_r12_put s.env)))), r21.2⟩)) (some (.exit 0, ⟨((11, r14.1) :: (prune kp_r12_put s.env)), r14.2⟩))
noncomputable def B_r12_put_0 (_E : FnA) (_n _n0 : Nat) (x8 x7 x6 x3 x0 x1 x2 : AV) (y : Bx) : Option (Ex × S) :=
  (pv y (binA Try.prog .lss 3 x8 (.v (Go.Value.int Go.IntKind.i64 13)))).bind fun r6 =>
  condA r6.1 ((pv r6.2 (binA Try.prog .mul 3 (.v (Go.Value.int Go.IntKind.i64 13)) x1)).bind fun r7 =>
  (pv r7.2 (binA Try.prog .add 3 r7.1 x8)).bind fun r8 =>
  (pv r8.2 (indexAddrA Try.prog 28 x2 x8)).bind fun r9 =>
  (pv r9.2 (loadA Try.prog 5 r9.2 r9.1)).bind fun r10 =>
  (pv r10.2 (indexAddrA Try.prog 37 x7 r8.1)).bind fun r11 =>
  (stA Try.prog 5 r11.2 r11.1 r10.1).bind fun r12 =>
  (pv r12.2 (binA Try.prog .add 3 x8 (.v (Go.Value.int Go.IntKind.i64 1)))).bind fun r13 =>
  some (.normal, ⟨[(8, r13.1), (11, r6.1), (8, x8), (7, x7), (6, x6), (3, x3), (0, x0), (1, x1), (2, x2)], r13.2⟩)) (some (.exit 0, ⟨[(11, r6.1), (8, x8), (7, x7), (6, x6), (3, x3), (0, x0), (1, x1), (2, x2)], r6.2⟩))
theorem L_r12_put_0_lit {E : FnA} {n n0 : Nat} {x8 x7 x6 x3 x0 x1 x2 : AV} {y : Bx} {Q : Ex → S → Prop} (h : Ends (B_r12_put_0 E n n0 x8 x7 x6 x3 x0 x1 x2 y) Q) : Ends (L_r12_put_0 E n n0 ⟨[(8, x8), (7, x7), (6, x6), (3, x3), (0, x0), (1, x1), (2, x2)], y⟩) Q := by
  rw [show L_r12_put_0 E n n0 ⟨[(8, x8), (7, x7), (6, x6), (3, x3), (0, x0), (1, x1), (2, x2)], y⟩ = B_r12_put_0 E n n0 x8 x7 x6 x3 x0 x1 x2 y by kernel_rfl]
  exact h
noncomputable def K_r12_put_0 (_E : FnA) (_n _n0 : Nat) (t : S) : Option (Ex × S) :=
  (pv t.bx (loadA Try.prog 37 t.bx (get t.env 7))).bind fun r24 =>
  (stA Try.prog 37 r24.2 (get t.env 6) r24.1).bind fun r25 =>
  some (.ret, ⟨(prune kp_r12_put t.env), r25.2⟩)
noncomputable def X_r12_put_0 (_E : FnA) (_n _n0 : Nat) (i : Nat) (t : S) : Option (Ex × S) :=
  if i = 0 then (pv t.bx (loadA Try.prog 37 t.bx (get t.env 7))).bind fun r22 =>
  (stA Try.prog 37 r22.2 (get t.env 6) r22.1).bind fun r23 =>
  some (.ret, ⟨(prune kp_r12_put t.env), r23.2⟩) else some (.exit i, ⟨t.env, t.bx⟩)
noncomputable def X_r12_put_0_0 (_E : FnA) (_n _n0 : Nat) (x11 x8 x7 x6 x3 x0 x1 x2 : AV) (y : Bx) : Option (Ex × S) :=
  (pv y (loadA Try.prog 37 y x7)).bind fun r26 =>
  (stA Try.prog 37 r26.2 x6 r26.1).bind fun r27 =>
  some (.ret, ⟨[(11, x11), (8, x8), (7, x7), (6, x6), (3, x3), (0, x0), (1, x1), (2, x2)], r27.2⟩)
theorem X_r12_put_0_0_lit {E : FnA} {n n0 : Nat} {x11 x8 x7 x6 x3 x0 x1 x2 : AV} {y : Bx} {Q : Ex → S → Prop} (h : Ends (X_r12_put_0_0 E n n0 x11 x8 x7 x6 x3 x0 x1 x2 y) Q) : Ends (X_r12_put_0 E n n0 0 ⟨[(11, x11), (8, x8), (7, x7), (6, x6), (3, x3), (0, x0), (1, x1), (2, x2)], y⟩) Q := by
  rw [show X_r12_put_0 E n n0 0 ⟨[(11, x11), (8, x8), (7, x7), (6, x6), (3, x3), (0, x0), (1, x1), (2, x2)], y⟩ = X_r12_put_0_0 E n n0 x11 x8 x7 x6 x3 x0 x1 x2 y by kernel_rfl]
  exact h
noncomputable def F_r12_put (E : FnA) (n n0 : Nat) (a0 a1 a2 : AV) (bx : Bx) : Option (Ex × S) :=
  (boxA bx a0).bind fun r1 =>
  (allocA Try.prog r1.2 37).bind fun r2 =>
  (pv r2.2 (loadA Try.prog 37 r2.2 r1.1)).bind fun r3 =>
  (allocA Try.prog r3.2 37).bind fun r4 =>
  (stA Try.prog 37 r4.2 r4.1 r3.1).bind fun r5 =>
  exitA (iter ⟨[(8, (.v (Go.Value.int Go.IntKind.i64 0))), (7, r4.1), (6, r2.1), (3, r1.1), (0, a0), (1, a1), (2, a2)], r5.2⟩ (L_r12_put_0 E n n0) n ⟨[(8, (.v (Go.Value.int Go.IntKind.i64 0))), (7, r4.1), (6, r2.1), (3, r1.1), (0, a0), (1, a1), (2, a2)], r5.2⟩) (K_r12_put_0 E n n0) (X_r12_put_0 E n n0)
theorem c_r12_put_eq : Try.f36.body = some c_r12_put := by kernel_rfl
theorem d_r12_put : drawsOk Try.prog md0 c_r12_put = true := by kernel_rfl
theorem F_r12_put_eq (E : FnA) (n n0 : Nat) (a0 a1 a2 : AV) (bx : Bx) : evK Try.prog md0 E 24 kp_r12_put n n0 c_r12_put ⟨[(0, a0), (1, a1), (2, a2)], bx⟩ (fun s => some (.normal, s)) (fun i s => some (.exit i, s)) = F_r12_put E n n0 a0 a1 a2 bx := by kernel_rfl

theorem E_r12_put (n : Nat) (a0 a1 a2 : AV) (bx : Bx) : evFn cx0 ext0 (n + 1) 36 [a0, a1, a2] bx = fin Try.prog [.cell 6 37] (F_r12_put (evFn cx0 ext0 n) n bx.length a0 a1 a2 bx) := by
  rw [evFn_eq2 (cx := cx0) (c := c_r12_put) rfl Try.func36 c_r12_put_eq (of_decide_eq_true (by kernel_rfl)) d_r12_put (of_decide_eq_true (by kernel_rfl))]
  exact congrArg (fin Try.prog [.cell 6 37]) (F_r12_put_eq (evFn cx0 ext0 n) n bx.length a0 a1 a2 bx)

/-- scupper/num.Get16 -/
def kp_num_Get16 : Option (List Nat) := some [0, 1, 4, 5, 6, 7]
noncomputable def c_num_Get16 : Code := Try.f37.body.getD .skip
noncomputable def F_num_Get16 (E : FnA) (_n _n0 : Nat) (a0 a1 : AV) (bx : Bx) : Option (Ex × S) :=
  (callA E md0 bx 39 [a0, a1, (.v (Go.Value.int Go.IntKind.i64 2))]).bind fun r1 =>
  (pv r1.2 (tupA r1.1 0)).bind fun r2 =>
  (pv r2.2 (tupA r1.1 1)).bind fun r3 =>
  (convA Try.prog r3.2 69 55 r2.1).bind fun r4 =>
  some (.ret, ⟨[(5, r3.1), (4, r4.1), (7, r3.1), (6, r2.1), (5, (.v (Go.Value.int Go.IntKind.i64 0))), (4, (.v (Go.Value.int Go.IntKind.u16 0))), (0, a0), (1, a1)], r4.2⟩)
theorem c_num_Get16_eq : Try.f37.body = some c_num_Get16 := by kernel_rfl
theorem d_num_Get16 : drawsOk Try.prog md0 c_num_Get16 = true := by kernel_rfl
theorem F_num_Get16_eq (E : FnA) (n n0 : Nat) (a0 a1 : AV) (bx : Bx) : evK Try.prog md0 E 17 kp_num_Get16 n n0 c_num_Get16 ⟨[(0, a0), (1, a1)], bx⟩ (fun s => some (.normal, s)) (fun i s => some (.exit i, s)) = F_num_Get16 E n n0 a0 a1 bx := by kernel_rfl

theorem E_num_Get16 (n : Nat) (a0 a1 : AV) (bx : Bx) : evFn cx0 ext0 (n + 1) 37 [a0, a1] bx = fin Try.prog [.tmp 4, .tmp 5] (F_num_Get16 (evFn cx0 ext0 n) n bx.length a0 a1 bx) := by
  rw [evFn_eq2 (cx := cx0) (c := c_num_Get16) rfl Try.func37 c_num_Get16_eq (of_decide_eq_true (by kernel_rfl)) d_num_Get16 (of_decide_eq_true (by kernel_rfl))]
  exact congrArg (fin Try.prog [.tmp 4, .tmp 5]) (F_num_Get16_eq (evFn cx0 ext0 n) n bx.length a0 a1 bx)

/-- scupper/scupperref01.number -/
def kp_r01_number : Option (List Nat) := some [0, 1, 2, 6, 7, 8, 9, 25, 29]
noncomputable def c_r01_number : Code := Try.f38.body.getD .skip
noncomputable def L_r01_number_0 (_E : FnA) (_n _n0 : Nat) (s : S) : Option (Ex × S) :=
  (pv s.bx (binA Try.prog .geq 3 (get s.env 9) (.v (Go.Value.int Go.IntKind.i64 0)))).bind fun r23 =>
  condA r23.1 ((pv r23.2 (binA Try.prog .mul 57 (.v (Go.Value.int Go.IntKind.u64 256)) (get (prune kp_r01_number s.env) 8))).bind fun r24 =>
  (pv r24.2 (binA Try.prog .add 3 (get (prune kp_r01_number s.env) 1) (get (prune kp_r01_number s.env) 9))).bind fun r25 =>
  (pv r25.2 (indexAddrA Try.prog 28 (get (prune kp_r01_number s.env) 0) r25.1)).bind fun r26 =>
  (pv r26.2 (loadA Try.prog 5 r26.2 r26.1)).bind fun r27 =>
  (convA Try.prog r27.2 5 57 r27.1).bind fun r28 =>
  (pv r28.2 (binA Try.prog .add 57 r24.1 r28.1)).bind fun r29 =>
  (pv r29.2 (binA Try.prog .sub 3 (get (prune kp_r01_number (prune kp_r01_number s.env)) 9) (.v (Go.Value.int Go.IntKind.i64 1)))).bind fun r30 =>
  some (.normal, ⟨((9, r30.1) :: (8, r29.1) :: (29, r23.1) :: (prune kp_r01_number (prune kp_r01_number (prune kp_r01_number s.env)))), r30.2⟩)) (some (.exit 0, ⟨((29, r23.1) :: (prune kp_r01_number s.env)), r23.2⟩))
noncomputable def B_r01_number_0 (_E : FnA) (_n _n0 : Nat) (x9 x8 x25 x7 x6 x0 x1 x2 : AV) (y : Bx) : Option (Ex × S) :=
  (pv y (binA Try.prog .geq 3 x9 (.v (Go.Value.int Go.IntKind.i64 0)))).bind fun r15 =>
  condA r15.1 ((pv r15.2 (binA Try.prog .mul 57 (.v (Go.Value.int Go.IntKind.u64 256)) x8)).bind fun r16 =>
  (pv r16.2 (binA Try.prog .add 3 x1 x9)).bind fun r17 =>
  (pv r17.2 (indexAddrA Try.prog 28 x0 r17.1)).bind fun r18 =>
  (pv r18.2 (loadA Try.prog 5 r18.2 r18.1)).bind fun r19 =>
  (convA Try.prog r19.2 5 57 r19.1).bind fun r20 =>
  (pv r20.2 (binA Try.prog .add 57 r16.1 r20.1)).bind fun r21 =>
  (pv r21.2 (binA Try.prog .sub 3 x9 (.v (Go.Value.int Go.IntKind.i64 1)))).bind fun r22 =>
  some (.normal, ⟨[(9, r22.1), (8, r21.1), (29, r15.1), (9, x9), (8, x8), (25, x25), (7, x7), (6, x6), (0, x0), (1, x1), (2, x2)], r22.2⟩)) (some (.exit 0, ⟨[(29, r15.1), (9, x9), (8, x8), (25, x25), (7, x7), (6, x6), (0, x0), (1, x1), (2, x2)], r15.2⟩))
theorem L_r01_number_0_lit {E : FnA} {n n0 : Nat} {x9 x8 x25 x7 x6 x0 x1 x2 : AV} {y : Bx} {Q : Ex → S → Prop} (h : Ends (B_r01_number_0 E n n0 x9 x8 x25 x7 x6 x0 x1 x2 y) Q) : Ends (L_r01_number_0 E n n0 ⟨[(9, x9), (8, x8), (25, x25), (7, x7), (6, x6), (0, x0), (1, x1), (2, x2)], y⟩) Q := by
  rw [show L_r01_number_0 E n n0 ⟨[(9, x9), (8, x8), (25, x25), (7, x7), (6, x6), (0, x0), (1, x1), (2, x2)], y⟩ = B_r01_number_0 E n n0 x9 x8 x25 x7 x6 x0 x1 x2 y by kernel_rfl]
  exact h
noncomputable def K_r01_number_0 (_E : FnA) (_n _n0 : Nat) (t : S) : Option (Ex × S) :=
  some (.ret, ⟨((7, (.v (Go.Value.int Go.IntKind.i64 0))) :: (6, (get t.env 8)) :: (prune kp_r01_number t.env)), t.bx⟩)
noncomputable def X_r01_number_0 (_E : FnA) (_n _n0 : Nat) (i : Nat) (t : S) : Option (Ex × S) :=
  if i = 0 then some (.ret, ⟨((7, (.v (Go.Value.int Go.IntKind.i64 0))) :: (6, (get t.env 8)) :: (prune kp_r01_number t.env)), t.bx⟩) else some (.exit i, ⟨t.env, t.bx⟩)
noncomputable def X_r01_number_0_0 (_E : FnA) (_n _n0 : Nat) (x29 x9 x8 x25 x7 x6 x0 x1 x2 : AV) (y : Bx) : Option (Ex × S) :=
  some (.ret, ⟨[(7, (.v (Go.Value.int Go.IntKind.i64 0))), (6, x8), (29, x29), (9, x9), (8, x8), (25, x25), (7, x7), (6, x6), (0, x0), (1, x1), (2, x2)], y⟩)
theorem X_r01_number_0_0_lit {E : FnA} {n n0 : Nat} {x29 x9 x8 x25 x7 x6 x0 x1 x2 : AV} {y : Bx} {Q : Ex → S → Prop} (h : Ends (X_r01_number_0_0 E n n0 x29 x9 x8 x25 x7 x6 x0 x1 x2 y) Q) : Ends (X_r01_number_0 E n n0 0 ⟨[(29, x29), (9, x9), (8, x8), (25, x25), (7, x7), (6, x6), (0, x0), (1, x1), (2, x2)], y⟩) Q := by
  rw [show X_r01_number_0 E n n0 0 ⟨[(29, x29), (9, x9), (8, x8), (25, x25), (7, x7), (6, x6), (0, x0), (1, x1), (2, x2)], y⟩ = X_r01_number_0_0 E n n0 x29 x9 x8 x25 x7 x6 x0 x1 x2 y by kernel_rfl]
  exact h
noncomputable def F_r01_number (E : FnA) (n n0 : Nat) (a0 a1 a2 : AV) (bx : Bx) : Option (Ex × S) :=
  (pv bx (binA Try.prog .lss 3 a1 (.v (Go.Value.int Go.IntKind.i64 0)))).bind fun r1 =>
  (gsel false r1.2 (some (a1, r1.2)) r1.1).bind fun r2 =>
  (gsel false r2.2 (some (a0, r2.2)) r1.1).bind fun r3 =>
  (gsel false r3.2 (pv r3.2 (lenA Try.prog 28 r3.1)) r1.1).bind fun r4 =>
  (gsel false r4.2 (pv r4.2 (binA Try.prog .gtr 3 r2.1 r4.1)) r1.1).bind fun r5 =>
  (pv r5.2 (pickA r1.1 (.v (Go.Value.bool true)) r5.1)).bind fun r6 =>
  (gsel false r6.2 (some (a0, r6.2)) r6.1).bind fun r7 =>
  (gsel false r7.2 (pv r7.2 (lenA Try.prog 28 r7.1)) r6.1).bind fun r8 =>
  (gsel false r8.2 (some (a1, r8.2)) r6.1).bind fun r9 =>
  (gsel false r9.2 (pv r9.2 (binA Try.prog .sub 3 r8.1 r9.1)) r6.1).bind fun r10 =>
  (gsel false r10.2 (some (a2, r10.2)) r6.1).bind fun r11 =>
  (gsel false r11.2 (pv r11.2 (binA Try.prog .lss 3 r10.1 r11.1)) r6.1).bind fun r12 =>
  (pv r12.2 (pickA r6.1 (.v (Go.Value.bool true)) r12.1)).bind fun r13 =>
  condA r13.1 (some (.ret, ⟨[(7, (.v (Go.Value.int Go.IntKind.i64 7))), (6, (.v (Go.Value.int Go.IntKind.u64 0))), (25, r13.1), (7, (.v (Go.Value.int Go.IntKind.i64 0))), (6, (.v (Go.Value.int Go.IntKind.u64 0))), (0, a0), (1, a1), (2, a2)], r13.2⟩)) ((pv r13.2 (binA Try.prog .sub 3 a2 (.v (Go.Value.int Go.IntKind.i64 1)))).bind fun r14 =>
  exitA (iter ⟨[(9, r14.1), (8, (.v (Go.Value.int Go.IntKind.u64 0))), (25, r13.1), (7, (.v (Go.Value.int Go.IntKind.i64 0))), (6, (.v (Go.Value.int Go.IntKind.u64 0))), (0, a0), (1, a1), (2, a2)], r14.2⟩ (L_r01_number_0 E n n0) n ⟨[(9, r14.1), (8, (.v (Go.Value.int Go.IntKind.u64 0))), (25, r13.1), (7, (.v (Go.Value.int Go.IntKind.i64 0))), (6, (.v (Go.Value.int Go.IntKind.u64 0))), (0, a0), (1, a1), (2, a2)], r14.2⟩) (K_r01_number_0 E n n0) (X_r01_number_0 E n n0))
theorem c_r01_number_eq : Try.f38.body = some c_r01_number := by kernel_rfl
theorem d_r01_number : drawsOk Try.prog md0 c_r01_number = true := by kernel_rfl
theorem F_r01_number_eq (E : FnA) (n n0 : Nat) (a0 a1 a2 : AV) (bx : Bx) : evK Try.prog md0 E 43 kp_r01_number n n0 c_r01_number ⟨[(0, a0), (1, a1), (2, a2)], bx⟩ (fun s => some (.normal, s)) (fun i s => some (.exit i, s)) = F_r01_number E n n0 a0 a1 a2 bx := by kernel_rfl

theorem E_r01_number (n : Nat) (a0 a1 a2 : AV) (bx : Bx) : evFn cx0 ext0 (n + 1) 38 [a0, a1, a2] bx = fin Try.prog [.tmp 6, .tmp 7] (F_r01_number (evFn cx0 ext0 n) n bx.length a0 a1 a2 bx) := by
  rw [evFn_eq2 (cx := cx0) (c := c_r01_number) rfl Try.func38 c_r01_number_eq (of_decide_eq_true (by kernel_rfl)) d_r01_number (of_decide_eq_true (by kernel_rfl))]
  exact congrArg (fin Try.prog [.tmp 6, .tmp 7]) (F_r01_number_eq (evFn cx0 ext0 n) n bx.length a0 a1 a2 bx)

/-- scupper/num.get -/
def kp_num_get : Option (List Nat) := some [0, 1, 2, 6, 7, 8, 9, 25, 26, 27, 28]
noncomputable def c_num_get : Code := Try.f39.body.getD .skip
noncomputable def L_num_get_0 (_E : FnA) (_n _n0 : Nat) (s : S) : Option (Ex × S) :=
  (pv s.bx (binA Try.prog .lss 3 (get s.env 27) (get s.env 26))).bind fun r23 =>
  condA r23.1 ((pv r23.2 (binA Try.prog .add 3 (get (prune kp_num_get (prune kp_num_get s.env)) 1) (get (prune kp_num_get s.env) 27))).bind fun r24 =>
  (pv r24.2 (indexAddrA Try.prog 28 (get (prune kp_num_get (prune kp_num_get s.env)) 0) r24.1)).bind fun r25 =>
  (pv r25.2 (loadA Try.prog 5 r25.2 r25.1)).bind fun r26 =>
  (convA Try.prog r26.2 5 69 r26.1).bind fun r27 =>
  (pv r27.2 (binA Try.prog .mul 3 (.v (Go.Value.int Go.IntKind.i64 8)) (get (prune kp_num_get s.env) 27))).bind fun r28 =>
  (pv r28.2 (binA Try.prog .shl 69 r27.1 r28.1)).bind fun r29 =>
  (pv r29.2 (binA Try.prog .or 69 (get (prune kp_num_get (prune kp_num_get s.env)) 8) r29.1)).bind fun r30 =>
  (pv r30.2 (binA Try.prog .add 3 (get (prune kp_num_get (prune kp_num_get (prune kp_num_get s.env))) 27) (.v (Go.Value.int Go.IntKind.i64 1)))).bind fun r31 =>
  some (.normal, ⟨((27, r31.1) :: (8, r30.1) :: (9, (get (prune kp_num_get s.env) 27)) :: (28, r23.1) :: (prune kp_num_get (prune kp_num_get (prune kp_num_get (prune kp_num_get s.env))))), r31.2⟩)) (some (.exit 0, ⟨((28, r23.1) :: (prune kp_num_get s.env)), r23.2⟩))
noncomputable def B_num_get_0 (_E : FnA) (_n _n0 : Nat) (x27 x26 x8 x25 x7 x6 x0 x1 x2 : AV) (y : Bx) : Option (Ex × S) :=
  (pv y (binA Try.prog .lss 3 x27 x26)).bind fun r14 =>
  condA r14.1 ((pv r14.2 (binA Try.prog .add 3 x1 x27)).bind fun r15 =>
  (pv r15.2 (indexAddrA Try.prog 28 x0 r15.1)).bind fun r16 =>
  (pv r16.2 (loadA Try.prog 5 r16.2 r16.1)).bind fun r17 =>
  (convA Try.prog r17.2 5 69 r17.1).bind fun r18 =>
  (pv r18.2 (binA Try.prog .mul 3 (.v (Go.Value.int Go.IntKind.i64 8)) x27)).bind fun r19 =>
  (pv r19.2 (binA Try.prog .shl 69 r18.1 r19.1)).bind fun r20 =>
  (pv r20.2 (binA Try.prog .or 69 x8 r20.1)).bind fun r21 =>
  (pv r21.2 (binA Try.prog .add 3 x27 (.v (Go.Value.int Go.IntKind.i64 1)))).bind fun r22 =>
  some (.normal, ⟨[(27, r22.1), (8, r21.1), (9, x27), (28, r14.1), (27, x27), (26, x26), (8, x8), (25, x25), (7, x7), (6, x6), (0, x0), (1, x1), (2, x2)], r22.2⟩)) (some (.exit 0, ⟨[(28, r14.1), (27, x27), (26, x26), (8, x8), (25, x25), (7, x7), (6, x6), (0, x0), (1, x1), (2, x2)], r14.2⟩))
theorem L_num_get_0_lit {E : FnA} {n n0 : Nat} {x27 x26 x8 x25 x7 x6 x0 x1 x2 : AV} {y : Bx} {Q : Ex → S → Prop} (h : Ends (B_num_get_0 E n n0 x27 x26 x8 x25 x7 x6 x0 x1 x2 y) Q) : Ends (L_num_get_0 E n n0 ⟨[(27, x27), (26, x26), (8, x8), (25, x25), (7, x7), (6, x6), (0, x0), (1, x1), (2, x2)], y⟩) Q := by
  rw [show L_num_get_0 E n n0 ⟨[(27, x27), (26, x26), (8, x8), (25, x25), (7, x7), (6, x6), (0, x0), (1, x1), (2, x2)], y⟩ = B_num_get_0 E n n0 x27 x26 x8 x25 x7 x6 x0 x1 x2 y by kernel_rfl]
  exact h
noncomputable def K_num_get_0 (_E : FnA) (_n _n0 : Nat) (t : S) : Option (Ex × S) :=
  some (.ret, ⟨((7, (.v (Go.Value.int Go.IntKind.i64 0))) :: (6, (get t.env 8)) :: (prune kp_num_get t.env)), t.bx⟩)
noncomputable def X_num_get_0 (_E : FnA) (_n _n0 : Nat) (i : Nat) (t : S) : Option (Ex × S) :=
  if i = 0 then some (.ret, ⟨((7, (.v (Go.Value.int Go.IntKind.i64 0))) :: (6, (get t.env 8)) :: (prune kp_num_get t.env)), t.bx⟩) else some (.exit i, ⟨t.env, t.bx⟩)
noncomputable def X_num_get_0_0 (_E : FnA) (_n _n0 : Nat) (x28 x27 x26 x8 x25 x7 x6 x0 x1 x2 : AV) (y : Bx) : Option (Ex × S) :=
  some (.ret, ⟨[(7, (.v (Go.Value.int Go.IntKind.i64 0))), (6, x8), (28, x28), (27, x27), (26, x26), (8, x8), (25, x25), (7, x7), (6, x6), (0, x0), (1, x1), (2, x2)], y⟩)
theorem X_num_get_0_0_lit {E : FnA} {n n0 : Nat} {x28 x27 x26 x8 x25 x7 x6 x0 x1 x2 : AV} {y : Bx} {Q : Ex → S → Prop} (h : Ends (X_num_get_0_0 E n n0 x28 x27 x26 x8 x25 x7 x6 x0 x1 x2 y) Q) : Ends (X_num_get_0 E n n0 0 ⟨[(28, x28), (27, x27), (26, x26), (8, x8), (25, x25), (7, x7), (6, x6), (0, x0), (1, x1), (2, x2)], y⟩) Q := by
  rw [show X_num_get_0 E n n0 0 ⟨[(28, x28), (27, x27), (26, x26), (8, x8), (25, x25), (7, x7), (6, x6), (0, x0), (1, x1), (2, x2)], y⟩ = X_num_get_0_0 E n n0 x28 x27 x26 x8 x25 x7 x6 x0 x1 x2 y by kernel_rfl]
  exact h
noncomputable def F_num_get (E : FnA) (n n0 : Nat) (a0 a1 a2 : AV) (bx : Bx) : Option (Ex × S) :=
  (pv bx (binA Try.prog .lss 3 a1 (.v (Go.Value.int Go.IntKind.i64 0)))).bind fun r1 =>
  (gsel false r1.2 (some (a1, r1.2)) r1.1).bind fun r2 =>
  (gsel false r2.2 (some (a0, r2.2)) r1.1).bind fun r3 =>
  (gsel false r3.2 (pv r3.2 (lenA Try.prog 28 r3.1)) r1.1).bind fun r4 =>
  (gsel false r4.2 (pv r4.2 (binA Try.prog .gtr 3 r2.1 r4.1)) r1.1).bind fun r5 =>
  (pv r5.2 (pickA r1.1 (.v (Go.Value.bool true)) r5.1)).bind fun r6 =>
  (gsel false r6.2 (some (a0, r6.2)) r6.1).bind fun r7 =>
  (gsel false r7.2 (pv r7.2 (lenA Try.prog 28 r7.1)) r6.1).bind fun r8 =>
  (gsel false r8.2 (some (a1, r8.2)) r6.1).bind fun r9 =>
  (gsel false r9.2 (pv r9.2 (binA Try.prog .sub 3 r8.1 r9.1)) r6.1).bind fun r10 =>
  (gsel false r10.2 (some (a2, r10.2)) r6.1).bind fun r11 =>
  (gsel false r11.2 (pv r11.2 (binA Try.prog .lss 3 r10.1 r11.1)) r6.1).bind fun r12 =>
  (pv r12.2 (pickA r6.1 (.v (Go.Value.bool true)) r12.1)).bind fun r13 =>
  condA r13.1 (some (.ret, ⟨[(7, (.v (Go.Value.int Go.IntKind.i64 7))), (6, (.v (Go.Value.int Go.IntKind.u32 0))), (25, r13.1), (7, (.v (Go.Value.int Go.IntKind.i64 0))), (6, (.v (Go.Value.int Go.IntKind.u32 0))), (0, a0), (1, a1), (2, a2)], r13.2⟩)) (exitA (iter ⟨[(27, (.v (Go.Value.int Go.IntKind.i64 0))), (26, a2), (8, (.v (Go.Value.int Go.IntKind.u32 0))), (25, r13.1), (7, (.v (Go.Value.int Go.IntKind.i64 0))), (6, (.v (Go.Value.int Go.IntKind.u32 0))), (0, a0), (1, a1), (2, a2)], r13.2⟩ (L_num_get_0 E n n0) n ⟨[(27, (.v (Go.Value.int Go.IntKind.i64 0))), (26, a2), (8, (.v (Go.Value.int Go.IntKind.u32 0))), (25, r13.1), (7, (.v (Go.Value.int Go.IntKind.i64 0))), (6, (.v (Go.Value.int Go.IntKind.u32 0))), (0, a0), (1, a1), (2, a2)], r13.2⟩) (K_num_get_0 E n n0) (X_num_get_0 E n n0))
theorem c_num_get_eq : Try.f39.body = some c_num_get := by kernel_rfl
theorem d_num_get : drawsOk Try.prog md0 c_num_get = true := by kernel_rfl
theorem F_num_get_eq (E : FnA) (n n0 : Nat) (a0 a1 a2 : AV) (bx : Bx) : evK Try.prog md0 E 44 kp_num_get n n0 c_num_get ⟨[(0, a0), (1, a1), (2, a2)], bx⟩ (fun s => some (.normal, s)) (fun i s => some (.exit i, s)) = F_num_get E n n0 a0 a1 a2 bx := by kernel_rfl

theorem E_num_get (n : Nat) (a0 a1 a2 : AV) (bx : Bx) : evFn cx0 ext0 (n + 1) 39 [a0, a1, a2] bx = fin Try.prog [.tmp 6, .tmp 7] (F_num_get (evFn cx0 ext0 n) n bx.length a0 a1 a2 bx) := by
  rw [evFn_eq2 (cx := cx0) (c := c_num_get) rfl Try.func39 c_num_get_eq (of_decide_eq_true (by kernel_rfl)) d_num_get (of_decide_eq_true (by kernel_rfl))]
  exact congrArg (fin Try.prog [.tmp 6, .tmp 7]) (F_num_get_eq (evFn cx0 ext0 n) n bx.length a0 a1 a2 bx)

end Go.Sy
