/-
  What the functions under this seat's laws read as, in the reader's words; no conditions.
-/
import Derived.Test.YtjbncdpelkpofaaSyStep
import Derived.Test.YtjbncdpelkpofaaProg
import Derived.KernelRfl
import Derived.Test.YtjbncdpelkpofaaPfUse
namespace Go.Sy
open Go.Proofs
def kpT : FuncId → Option (List Nat)
  | 3 => some [0, 1, 4, 5, 6, 8, 14, 21, 31]
  | 4 => some [0, 2, 3, 4, 5, 15, 23, 28, 29, 45, 46, 67]
  | 5 => some [0, 2, 3, 5]
  | 6 => some [0, 1, 2, 3, 4]
  | 7 => some [0]
  | 8 => some [0, 1, 4, 10]
  | 10 => some [0, 2, 4]
  | 11 => some [0, 2]
  | 12 => some [0]
  | 13 => some [0, 1, 4, 6]
  | 14 => some [0, 1, 4, 6]
  | 15 => some [0, 3]
  | 16 => some [0]
  | 17 => some [0, 2, 13, 21]
  | _ => none
def md_l03_PowerEnds : FuncId → Md
  | 7 => .objK
  | 8 => .objT
  | 9 => .objT
  | 10 => .objT
  | 11 => .objT
  | 15 => .objT
  | _ => .frozen
def md_l03_PowerPlays : FuncId → Md
  | 7 => .objK
  | 8 => .objT
  | 9 => .objT
  | 10 => .objR
  | 11 => .objR
  | 15 => .objT
  | 12 => .objK
  | 14 => .objT
  | 17 => .objT
  | 16 => .objT
  | _ => .frozen
def md_l03_PowerVoid : FuncId → Md
  | 7 => .objK
  | 8 => .objT
  | 9 => .objT
  | 10 => .objT
  | 11 => .objT
  | 15 => .objT
  | _ => .frozen
def md_l03_works : FuncId → Md
  | 7 => .objK
  | 8 => .objT
  | 9 => .objT
  | 10 => .objT
  | 11 => .objT
  | 15 => .objT
  | _ => .frozen
def mdT : FuncId → FuncId → Md
  | 3 => md_l03_PowerEnds
  | 4 => md_l03_PowerPlays
  | 5 => md_l03_PowerVoid
  | 6 => md_l03_works
  | _ => md0
noncomputable def cx0 : Cx := { P := Try.prog, md := mdT, kp := kpT }
noncomputable def ext0 : FnA := extC
theorem ext0_ok (f : FuncId) (args : List AV) (bx : Bx) (r : AV) (bx' : Bx) (h : ext0 f args bx = some (r, bx')) : Sound cx0.P f args bx r bx' := extC_ok f args bx r bx' h
/-- scupper/scupperlaw03.PowerEnds -/
def kp_l03_PowerEnds : Option (List Nat) := some [0, 1, 4, 5, 6, 8, 14, 21, 31]
noncomputable def c_l03_PowerEnds : Code := Try.f3.body.getD .skip
noncomputable def L_l03_PowerEnds_0 (E : FnA) (_n _n0 : Nat) (s : S) : Option (Ex × S) :=
  (convA Try.prog s.bx 5 3 (get s.env 0)).bind fun r17 =>
  (convA Try.prog r17.2 5 3 (get s.env 1)).bind fun r18 =>
  (pv r18.2 (binA Try.prog .add 3 r17.1 r18.1)).bind fun r19 =>
  (pv r19.2 (binA Try.prog .lss 3 (get s.env 6) r19.1)).bind fun r20 =>
  condA r20.1 ((callA E md_l03_PowerEnds r20.2 9 [(get (prune kp_l03_PowerEnds s.env) 5)]).bind fun r21 =>
  (pv r21.2 (binA Try.prog .eql 25 r21.1 (.v (Go.Value.int Go.IntKind.i64 0)))).bind fun r22 =>
  (convA Try.prog r22.2 5 3 (get (prune kp_l03_PowerEnds s.env) 0)).bind fun r23 =>
  (pv r23.2 (binA Try.prog .lss 3 (get (prune kp_l03_PowerEnds s.env) 6) r23.1)).bind fun r24 =>
  (pv r24.2 (binA Try.prog .neq 4 r22.1 r24.1)).bind fun r25 =>
  condA r25.1 (some (.ret, ⟨((4, (.v (Go.Value.bool false))) :: (31, r25.1) :: (21, r20.1) :: (prune kp_l03_PowerEnds (prune kp_l03_PowerEnds (prune kp_l03_PowerEnds s.env)))), r25.2⟩)) ((pv r25.2 (binA Try.prog .add 3 (get (prune kp_l03_PowerEnds (prune kp_l03_PowerEnds s.env)) 6) (.v (Go.Value.int Go.IntKind.i64 1)))).bind fun r26 =>
  some (.normal, ⟨((6, r26.1) :: (31, r25.1) :: (21, r20.1) :: (prune kp_l03_PowerEnds (prune kp_l03_PowerEnds (prune kp_l03_PowerEnds s.env)))), r26.2⟩))) (some (.exit 0, ⟨((21, r20.1) :: (prune kp_l03_PowerEnds s.env)), r20.2⟩))
noncomputable def B_l03_PowerEnds_0 (E : FnA) (_n _n0 : Nat) (x6 x14 x5 x8 x4 x0 x1 : AV) (y : Bx) : Option (Ex × S) :=
  (convA Try.prog y 5 3 x0).bind fun r7 =>
  (convA Try.prog r7.2 5 3 x1).bind fun r8 =>
  (pv r8.2 (binA Try.prog .add 3 r7.1 r8.1)).bind fun r9 =>
  (pv r9.2 (binA Try.prog .lss 3 x6 r9.1)).bind fun r10 =>
  condA r10.1 ((callA E md_l03_PowerEnds r10.2 9 [x5]).bind fun r11 =>
  (pv r11.2 (binA Try.prog .eql 25 r11.1 (.v (Go.Value.int Go.IntKind.i64 0)))).bind fun r12 =>
  (convA Try.prog r12.2 5 3 x0).bind fun r13 =>
  (pv r13.2 (binA Try.prog .lss 3 x6 r13.1)).bind fun r14 =>
  (pv r14.2 (binA Try.prog .neq 4 r12.1 r14.1)).bind fun r15 =>
  condA r15.1 (some (.ret, ⟨[(4, (.v (Go.Value.bool false))), (31, r15.1), (21, r10.1), (6, x6), (14, x14), (5, x5), (8, x8), (4, x4), (0, x0), (1, x1)], r15.2⟩)) ((pv r15.2 (binA Try.prog .add 3 x6 (.v (Go.Value.int Go.IntKind.i64 1)))).bind fun r16 =>
  some (.normal, ⟨[(6, r16.1), (31, r15.1), (21, r10.1), (6, x6), (14, x14), (5, x5), (8, x8), (4, x4), (0, x0), (1, x1)], r16.2⟩))) (some (.exit 0, ⟨[(21, r10.1), (6, x6), (14, x14), (5, x5), (8, x8), (4, x4), (0, x0), (1, x1)], r10.2⟩))
theorem L_l03_PowerEnds_0_lit {E : FnA} {n n0 : Nat} {x6 x14 x5 x8 x4 x0 x1 : AV} {y : Bx} {Q : Ex → S → Prop} (h : Ends (B_l03_PowerEnds_0 E n n0 x6 x14 x5 x8 x4 x0 x1 y) Q) : Ends (L_l03_PowerEnds_0 E n n0 ⟨[(6, x6), (14, x14), (5, x5), (8, x8), (4, x4), (0, x0), (1, x1)], y⟩) Q := by
  rw [show L_l03_PowerEnds_0 E n n0 ⟨[(6, x6), (14, x14), (5, x5), (8, x8), (4, x4), (0, x0), (1, x1)], y⟩ = B_l03_PowerEnds_0 E n n0 x6 x14 x5 x8 x4 x0 x1 y by kernel_rfl]
  exact h
noncomputable def K_l03_PowerEnds_0 (E : FnA) (_n _n0 : Nat) (t : S) : Option (Ex × S) :=
  (callA E md_l03_PowerEnds t.bx 10 [(get t.env 5)]).bind fun r36 =>
  (convA Try.prog r36.2 5 3 (get t.env 0)).bind fun r37 =>
  (pv r37.2 (binA Try.prog .eql 3 r36.1 r37.1)).bind fun r38 =>
  (gsel true r38.2 (some ((get t.env 5), r38.2)) r38.1).bind fun r39 =>
  (gsel true r39.2 (callA E md_l03_PowerEnds r39.2 11 [r39.1]) r38.1).bind fun r40 =>
  (gsel true r40.2 (some ((get t.env 1), r40.2)) r38.1).bind fun r41 =>
  (gsel true r41.2 (pv r41.2 (binA Try.prog .gtr 5 r41.1 (.v (Go.Value.int Go.IntKind.u8 0)))) r38.1).bind fun r42 =>
  (gsel true r42.2 (pv r42.2 (binA Try.prog .eql 4 r40.1 r42.1)) r38.1).bind fun r43 =>
  (pv r43.2 (pickA r38.1 r43.1 (.v (Go.Value.bool false)))).bind fun r44 =>
  some (.ret, ⟨((4, r44.1) :: (prune kp_l03_PowerEnds t.env)), r44.2⟩)
noncomputable def X_l03_PowerEnds_0 (E : FnA) (_n _n0 : Nat) (i : Nat) (t : S) : Option (Ex × S) :=
  if i = 0 then (callA E md_l03_PowerEnds t.bx 10 [(get t.env 5)]).bind fun r27 =>
  (convA Try.prog r27.2 5 3 (get t.env 0)).bind fun r28 =>
  (pv r28.2 (binA Try.prog .eql 3 r27.1 r28.1)).bind fun r29 =>
  (gsel true r29.2 (some ((get t.env 5), r29.2)) r29.1).bind fun r30 =>
  (gsel true r30.2 (callA E md_l03_PowerEnds r30.2 11 [r30.1]) r29.1).bind fun r31 =>
  (gsel true r31.2 (some ((get t.env 1), r31.2)) r29.1).bind fun r32 =>
  (gsel true r32.2 (pv r32.2 (binA Try.prog .gtr 5 r32.1 (.v (Go.Value.int Go.IntKind.u8 0)))) r29.1).bind fun r33 =>
  (gsel true r33.2 (pv r33.2 (binA Try.prog .eql 4 r31.1 r33.1)) r29.1).bind fun r34 =>
  (pv r34.2 (pickA r29.1 r34.1 (.v (Go.Value.bool false)))).bind fun r35 =>
  some (.ret, ⟨((4, r35.1) :: (prune kp_l03_PowerEnds t.env)), r35.2⟩) else some (.exit i, ⟨t.env, t.bx⟩)
noncomputable def X_l03_PowerEnds_0_0 (E : FnA) (_n _n0 : Nat) (x21 x6 x14 x5 x8 x4 x0 x1 : AV) (y : Bx) : Option (Ex × S) :=
  (callA E md_l03_PowerEnds y 10 [x5]).bind fun r45 =>
  (convA Try.prog r45.2 5 3 x0).bind fun r46 =>
  (pv r46.2 (binA Try.prog .eql 3 r45.1 r46.1)).bind fun r47 =>
  (gsel true r47.2 (some (x5, r47.2)) r47.1).bind fun r48 =>
  (gsel true r48.2 (callA E md_l03_PowerEnds r48.2 11 [r48.1]) r47.1).bind fun r49 =>
  (gsel true r49.2 (some (x1, r49.2)) r47.1).bind fun r50 =>
  (gsel true r50.2 (pv r50.2 (binA Try.prog .gtr 5 r50.1 (.v (Go.Value.int Go.IntKind.u8 0)))) r47.1).bind fun r51 =>
  (gsel true r51.2 (pv r51.2 (binA Try.prog .eql 4 r49.1 r51.1)) r47.1).bind fun r52 =>
  (pv r52.2 (pickA r47.1 r52.1 (.v (Go.Value.bool false)))).bind fun r53 =>
  some (.ret, ⟨[(4, r53.1), (21, x21), (6, x6), (14, x14), (5, x5), (8, x8), (4, x4), (0, x0), (1, x1)], r53.2⟩)
theorem X_l03_PowerEnds_0_0_lit {E : FnA} {n n0 : Nat} {x21 x6 x14 x5 x8 x4 x0 x1 : AV} {y : Bx} {Q : Ex → S → Prop} (h : Ends (X_l03_PowerEnds_0_0 E n n0 x21 x6 x14 x5 x8 x4 x0 x1 y) Q) : Ends (X_l03_PowerEnds_0 E n n0 0 ⟨[(21, x21), (6, x6), (14, x14), (5, x5), (8, x8), (4, x4), (0, x0), (1, x1)], y⟩) Q := by
  rw [show X_l03_PowerEnds_0 E n n0 0 ⟨[(21, x21), (6, x6), (14, x14), (5, x5), (8, x8), (4, x4), (0, x0), (1, x1)], y⟩ = X_l03_PowerEnds_0_0 E n n0 x21 x6 x14 x5 x8 x4 x0 x1 y by kernel_rfl]
  exact h
noncomputable def F_l03_PowerEnds (E : FnA) (n n0 : Nat) (a0 a1 : AV) (bx : Bx) : Option (Ex × S) :=
  (callA E md_l03_PowerEnds bx 6 []).bind fun r1 =>
  (pv r1.2 (unA .not r1.1)).bind fun r2 =>
  condA r2.1 (some (.ret, ⟨[(4, (.v (Go.Value.bool false))), (8, r2.1), (4, (.v (Go.Value.bool false))), (0, a0), (1, a1)], r2.2⟩)) ((callA E md_l03_PowerEnds r2.2 7 []).bind fun r3 =>
  (convA Try.prog r3.2 5 3 a0).bind fun r4 =>
  (callA E md_l03_PowerEnds r4.2 8 [r3.1, r4.1]).bind fun r5 =>
  (pv r5.2 (binA Try.prog .neq 25 r5.1 (.v (Go.Value.int Go.IntKind.i64 0)))).bind fun r6 =>
  condA r6.1 (some (.ret, ⟨[(4, (.v (Go.Value.bool false))), (14, r6.1), (5, r3.1), (8, r2.1), (4, (.v (Go.Value.bool false))), (0, a0), (1, a1)], r6.2⟩)) (exitA (iter ⟨[(6, (.v (Go.Value.int Go.IntKind.i64 0))), (14, r6.1), (5, r3.1), (8, r2.1), (4, (.v (Go.Value.bool false))), (0, a0), (1, a1)], r6.2⟩ (L_l03_PowerEnds_0 E n n0) n ⟨[(6, (.v (Go.Value.int Go.IntKind.i64 0))), (14, r6.1), (5, r3.1), (8, r2.1), (4, (.v (Go.Value.bool false))), (0, a0), (1, a1)], r6.2⟩) (K_l03_PowerEnds_0 E n n0) (X_l03_PowerEnds_0 E n n0)))
theorem c_l03_PowerEnds_eq : Try.f3.body = some c_l03_PowerEnds := by kernel_rfl
theorem d_l03_PowerEnds : drawsOk Try.prog md_l03_PowerEnds c_l03_PowerEnds = true := by kernel_rfl
theorem F_l03_PowerEnds_eq (E : FnA) (n n0 : Nat) (a0 a1 : AV) (bx : Bx) : evK Try.prog md_l03_PowerEnds E 44 kp_l03_PowerEnds n n0 c_l03_PowerEnds ⟨[(0, a0), (1, a1)], bx⟩ (fun s => some (.normal, s)) (fun i s => some (.exit i, s)) = F_l03_PowerEnds E n n0 a0 a1 bx := by kernel_rfl

theorem E_l03_PowerEnds (n : Nat) (a0 a1 : AV) (bx : Bx) : evFn cx0 ext0 (n + 1) 3 [a0, a1] bx = fin Try.prog [.tmp 4] (F_l03_PowerEnds (evFn cx0 ext0 n) n bx.length a0 a1 bx) := by
  rw [evFn_eq2 (cx := cx0) (c := c_l03_PowerEnds) rfl Try.func3 c_l03_PowerEnds_eq (of_decide_eq_true (by kernel_rfl)) d_l03_PowerEnds (of_decide_eq_true (by kernel_rfl))]
  exact congrArg (fin Try.prog [.tmp 4]) (F_l03_PowerEnds_eq (evFn cx0 ext0 n) n bx.length a0 a1 bx)

/-- scupper/scupperlaw03.PowerPlays -/
def kp_l03_PowerPlays : Option (List Nat) := some [0, 2, 3, 4, 5, 15, 23, 28, 29, 45, 46, 67]
noncomputable def c_l03_PowerPlays : Code := Try.f4.body.getD .skip
noncomputable def L_l03_PowerPlays_0 (E : FnA) (_n _n0 : Nat) (s : S) : Option (Ex × S) :=
  (pv s.bx (lenA Try.prog 30 (get s.env 0))).bind fun r70 =>
  (pv r70.2 (binA Try.prog .lss 3 (get s.env 5) r70.1)).bind fun r71 =>
  (gsel true r71.2 (some ((get s.env 5), r71.2)) r71.1).bind fun r72 =>
  (gsel true r72.2 (pv r72.2 (binA Try.prog .lss 3 r72.1 (.v (Go.Value.int Go.IntKind.i64 100)))) r71.1).bind fun r73 =>
  (pv r73.2 (pickA r71.1 r73.1 (.v (Go.Value.bool false)))).bind fun r74 =>
  condA r74.1 ((pv r74.2 (indexAddrA Try.prog 30 (get (prune kp_l03_PowerPlays s.env) 0) (get (prune kp_l03_PowerPlays s.env) 5))).bind fun r75 =>
  (pv r75.2 (fieldAddrA Try.prog 35 r75.1 0)).bind fun r76 =>
  (pv r76.2 (loadA Try.prog 3 r76.2 r76.1)).bind fun r77 =>
  (callA E md_l03_PowerPlays r77.2 13 [r77.1, (.v (Go.Value.int Go.IntKind.i64 7))]).bind fun r78 =>
  (pv r78.2 (binA Try.prog .eql 3 r78.1 (.v (Go.Value.int Go.IntKind.i64 5)))).bind fun r79 =>
  condA r79.1 ((pv r79.2 (indexAddrA Try.prog 30 (get (prune kp_l03_PowerPlays (prune kp_l03_PowerPlays (prune kp_l03_PowerPlays s.env))) 0) (get (prune kp_l03_PowerPlays (prune kp_l03_PowerPlays (prune kp_l03_PowerPlays s.env))) 5))).bind fun r80 =>
  (pv r80.2 (fieldAddrA Try.prog 35 r80.1 1)).bind fun r81 =>
  (pv r81.2 (loadA Try.prog 3 r81.2 r81.1)).bind fun r82 =>
  (callA E md_l03_PowerPlays r82.2 8 [(get (prune kp_l03_PowerPlays (prune kp_l03_PowerPlays (prune kp_l03_PowerPlays s.env))) 3), r82.1]).bind fun r83 =>
  (pv r83.2 (indexAddrA Try.prog 30 (get (prune kp_l03_PowerPlays (prune kp_l03_PowerPlays (prune kp_l03_PowerPlays s.env))) 0) (get (prune kp_l03_PowerPlays (prune kp_l03_PowerPlays (prune kp_l03_PowerPlays s.env))) 5))).bind fun r84 =>
  (pv r84.2 (fieldAddrA Try.prog 35 r84.1 1)).bind fun r85 =>
  (guardB (apartV .ns r85.1 && true)).bind fun _ =>
  (pv r85.2 (loadA Try.prog 3 r85.2 r85.1)).bind fun r86 =>
  (callA E md_l03_PowerPlays r86.2 14 [(get (prune kp_l03_PowerPlays (prune kp_l03_PowerPlays (prune kp_l03_PowerPlays s.env))) 4), r86.1]).bind fun r87 =>
  (pv r87.2 (binA Try.prog .neq 25 r83.1 r87.1)).bind fun r88 =>
  condA r88.1 (some (.ret, ⟨((2, (.v (Go.Value.bool false))) :: (45, r88.1) :: (29, r79.1) :: (23, r78.1) :: (15, r74.1) :: (prune kp_l03_PowerPlays (prune kp_l03_PowerPlays (prune kp_l03_PowerPlays (prune kp_l03_PowerPlays (prune kp_l03_PowerPlays s.env)))))), r88.2⟩)) ((callA E md_l03_PowerPlays r88.2 11 [(get (prune kp_l03_PowerPlays (prune kp_l03_PowerPlays (prune kp_l03_PowerPlays (prune kp_l03_PowerPlays s.env)))) 3)]).bind fun r89 =>
  (pv r89.2 (nilA (get (prune kp_l03_PowerPlays (prune kp_l03_PowerPlays (prune kp_l03_PowerPlays (prune kp_l03_PowerPlays s.env)))) 4))).bind fun r90 =>
  (pv r90.2 (fieldAddrA Try.prog 37 r90.1 2)).bind fun r91 =>
  (pv r91.2 (loadA Try.prog 4 r91.2 r91.1)).bind fun r92 =>
  (pv r92.2 (binA Try.prog .neq 4 r89.1 r92.1)).bind fun r93 =>
  (gsel false r93.2 (some ((get (prune kp_l03_PowerPlays (prune kp_l03_PowerPlays (prune kp_l03_PowerPlays (prune kp_l03_PowerPlays s.env)))) 3), r93.2)) r93.1).bind fun r94 =>
  (gsel false r94.2 (callA E md_l03_PowerPlays r94.2 10 [r94.1]) r93.1).bind fun r95 =>
  (gsel false r95.2 (some ((get (prune kp_l03_PowerPlays (prune kp_l03_PowerPlays (prune kp_l03_PowerPlays (prune kp_l03_PowerPlays s.env)))) 4), r95.2)) r93.1).bind fun r96 =>
  (gsel false r96.2 (pv r96.2 (nilA r96.1)) r93.1).bind fun r97 =>
  (gsel false r97.2 (pv r97.2 (fieldAddrA Try.prog 37 r97.1 1)) r93.1).bind fun r98 =>
  (gsel false r98.2 (pv r98.2 (loadA Try.prog 3 r98.2 r98.1)) r93.1).bind fun r99 =>
  (gsel false r99.2 (pv r99.2 (binA Try.prog .neq 3 r95.1 r99.1)) r93.1).bind fun r100 =>
  (pv r100.2 (pickA r93.1 (.v (Go.Value.bool true)) r100.1)).bind fun r101 =>
  condA r101.1 (some (.ret, ⟨((2, (.v (Go.Value.bool false))) :: (67, r101.1) :: (45, r88.1) :: (29, r79.1) :: (23, r78.1) :: (15, r74.1) :: (prune kp_l03_PowerPlays (prune kp_l03_PowerPlays (prune kp_l03_PowerPlays (prune kp_l03_PowerPlays (prune kp_l03_PowerPlays (prune kp_l03_PowerPlays s.env))))))), r101.2⟩)) ((pv r101.2 (binA Try.prog .add 3 (get (prune kp_l03_PowerPlays (prune kp_l03_PowerPlays (prune kp_l03_PowerPlays (prune kp_l03_PowerPlays (prune kp_l03_PowerPlays s.env))))) 5) (.v (Go.Value.int Go.IntKind.i64 1)))).bind fun r102 =>
  some (.normal, ⟨((5, r102.1) :: (67, r101.1) :: (45, r88.1) :: (29, r79.1) :: (23, r78.1) :: (15, r74.1) :: (prune kp_l03_PowerPlays (prune kp_l03_PowerPlays (prune kp_l03_PowerPlays (prune kp_l03_PowerPlays (prune kp_l03_PowerPlays (prune kp_l03_PowerPlays s.env))))))), r102.2⟩)))) ((pv r79.2 (binA Try.prog .eql 3 r78.1 (.v (Go.Value.int Go.IntKind.i64 6)))).bind fun r103 =>
  condA r103.1 ((callA E md_l03_PowerPlays r103.2 15 [(get (prune kp_l03_PowerPlays (prune kp_l03_PowerPlays (prune kp_l03_PowerPlays (prune kp_l03_PowerPlays s.env)))) 3)]).bind fun r104 =>
  (callA E md_l03_PowerPlays r104.2 16 [(get (prune kp_l03_PowerPlays (prune kp_l03_PowerPlays (prune kp_l03_PowerPlays (prune kp_l03_PowerPlays (prune kp_l03_PowerPlays s.env))))) 4)]).bind fun r105 =>
  (callA E md_l03_PowerPlays r105.2 11 [(get (prune kp_l03_PowerPlays (prune kp_l03_PowerPlays (prune kp_l03_PowerPlays (prune kp_l03_PowerPlays (prune kp_l03_PowerPlays (prune kp_l03_PowerPlays s.env)))))) 3)]).bind fun r106 =>
  (pv r106.2 (nilA (get (prune kp_l03_PowerPlays (prune kp_l03_PowerPlays (prune kp_l03_PowerPlays (prune kp_l03_PowerPlays (prune kp_l03_PowerPlays (prune kp_l03_PowerPlays s.env)))))) 4))).bind fun r107 =>
  (pv r107.2 (fieldAddrA Try.prog 37 r107.1 2)).bind fun r108 =>
  (pv r108.2 (loadA Try.prog 4 r108.2 r108.1)).bind fun r109 =>
  (pv r109.2 (binA Try.prog .neq 4 r106.1 r109.1)).bind fun r110 =>
  (gsel false r110.2 (some ((get (prune kp_l03_PowerPlays (prune kp_l03_PowerPlays (prune kp_l03_PowerPlays (prune kp_l03_PowerPlays (prune kp_l03_PowerPlays (prune kp_l03_PowerPlays s.env)))))) 3), r110.2)) r110.1).bind fun r111 =>
  (gsel false r111.2 (callA E md_l03_PowerPlays r111.2 10 [r111.1]) r110.1).bind fun r112 =>
  (gsel false r112.2 (some ((get (prune kp_l03_PowerPlays (prune kp_l03_PowerPlays (prune kp_l03_PowerPlays (prune kp_l03_PowerPlays (prune kp_l03_PowerPlays (prune kp_l03_PowerPlays s.env)))))) 4), r112.2)) r110.1).bind fun r113 =>
  (gsel false r113.2 (pv r113.2 (nilA r113.1)) r110.1).bind fun r114 =>
  (gsel false r114.2 (pv r114.2 (fieldAddrA Try.prog 37 r114.1 1)) r110.1).bind fun r115 =>
  (gsel false r115.2 (pv r115.2 (loadA Try.prog 3 r115.2 r115.1)) r110.1).bind fun r116 =>
  (gsel false r116.2 (pv r116.2 (binA Try.prog .neq 3 r112.1 r116.1)) r110.1).bind fun r117 =>
  (pv r117.2 (pickA r110.1 (.v (Go.Value.bool true)) r117.1)).bind fun r118 =>
  condA r118.1 (some (.ret, ⟨((2, (.v (Go.Value.bool false))) :: (67, r118.1) :: (46, r103.1) :: (29, r79.1) :: (23, r78.1) :: (15, r74.1) :: (prune kp_l03_PowerPlays (prune kp_l03_PowerPlays (prune kp_l03_PowerPlays (prune kp_l03_PowerPlays (prune kp_l03_PowerPlays (prune kp_l03_PowerPlays (prune kp_l03_PowerPlays (prune kp_l03_PowerPlays s.env))))))))), r118.2⟩)) ((pv r118.2 (binA Try.prog .add 3 (get (prune kp_l03_PowerPlays (prune kp_l03_PowerPlays (prune kp_l03_PowerPlays (prune kp_l03_PowerPlays (prune kp_l03_PowerPlays (prune kp_l03_PowerPlays (prune kp_l03_PowerPlays s.env))))))) 5) (.v (Go.Value.int Go.IntKind.i64 1)))).bind fun r119 =>
  some (.normal, ⟨((5, r119.1) :: (67, r118.1) :: (46, r103.1) :: (29, r79.1) :: (23, r78.1) :: (15, r74.1) :: (prune kp_l03_PowerPlays (prune kp_l03_PowerPlays (prune kp_l03_PowerPlays (prune kp_l03_PowerPlays (prune kp_l03_PowerPlays (prune kp_l03_PowerPlays (prune kp_l03_PowerPlays (prune kp_l03_PowerPlays s.env))))))))), r119.2⟩))) ((callA E md_l03_PowerPlays r103.2 9 [(get (prune kp_l03_PowerPlays (prune kp_l03_PowerPlays (prune kp_l03_PowerPlays (prune kp_l03_PowerPlays s.env)))) 3)]).bind fun r120 =>
  (callA E md_l03_PowerPlays r120.2 17 [(get (prune kp_l03_PowerPlays (prune kp_l03_PowerPlays (prune kp_l03_PowerPlays (prune kp_l03_PowerPlays s.env)))) 4)]).bind fun r121 =>
  (pv r121.2 (binA Try.prog .neq 25 r120.1 r121.1)).bind fun r122 =>
  condA r122.1 (some (.ret, ⟨((2, (.v (Go.Value.bool false))) :: (28, r122.1) :: (46, r103.1) :: (29, r79.1) :: (23, r78.1) :: (15, r74.1) :: (prune kp_l03_PowerPlays (prune kp_l03_PowerPlays (prune kp_l03_PowerPlays (prune kp_l03_PowerPlays (prune kp_l03_PowerPlays (prune kp_l03_PowerPlays s.env))))))), r122.2⟩)) ((callA E md_l03_PowerPlays r122.2 11 [(get (prune kp_l03_PowerPlays (prune kp_l03_PowerPlays (prune kp_l03_PowerPlays (prune kp_l03_PowerPlays (prune kp_l03_PowerPlays s.env))))) 3)]).bind fun r123 =>
  (pv r123.2 (nilA (get (prune kp_l03_PowerPlays (prune kp_l03_PowerPlays (prune kp_l03_PowerPlays (prune kp_l03_PowerPlays (prune kp_l03_PowerPlays s.env))))) 4))).bind fun r124 =>
  (pv r124.2 (fieldAddrA Try.prog 37 r124.1 2)).bind fun r125 =>
  (pv r125.2 (loadA Try.prog 4 r125.2 r125.1)).bind fun r126 =>
  (pv r126.2 (binA Try.prog .neq 4 r123.1 r126.1)).bind fun r127 =>
  (gsel false r127.2 (some ((get (prune kp_l03_PowerPlays (prune kp_l03_PowerPlays (prune kp_l03_PowerPlays (prune kp_l03_PowerPlays (prune kp_l03_PowerPlays s.env))))) 3), r127.2)) r127.1).bind fun r128 =>
  (gsel false r128.2 (callA E md_l03_PowerPlays r128.2 10 [r128.1]) r127.1).bind fun r129 =>
  (gsel false r129.2 (some ((get (prune kp_l03_PowerPlays (prune kp_l03_PowerPlays (prune kp_l03_PowerPlays (prune kp_l03_PowerPlays (prune kp_l03_PowerPlays s.env))))) 4), r129.2)) r127.1).bind fun r130 =>
  (gsel false r130.2 (pv r130.2 (nilA r130.1)) r127.1).bind fun r131 =>
  (gsel false r131.2 (pv r131.2 (fieldAddrA Try.prog 37 r131.1 1)) r127.1).bind fun r132 =>
  (gsel false r132.2 (pv r132.2 (loadA Try.prog 3 r132.2 r132.1)) r127.1).bind fun r133 =>
  (gsel false r133.2 (pv r133.2 (binA Try.prog .neq 3 r129.1 r133.1)) r127.1).bind fun r134 =>
  (pv r134.2 (pickA r127.1 (.v (Go.Value.bool true)) r134.1)).bind fun r135 =>
  condA r135.1 (some (.ret, ⟨((2, (.v (Go.Value.bool false))) :: (67, r135.1) :: (28, r122.1) :: (46, r103.1) :: (29, r79.1) :: (23, r78.1) :: (15, r74.1) :: (prune kp_l03_PowerPlays (prune kp_l03_PowerPlays (prune kp_l03_PowerPlays (prune kp_l03_PowerPlays (prune kp_l03_PowerPlays (prune kp_l03_PowerPlays (prune kp_l03_PowerPlays s.env)))))))), r135.2⟩)) ((pv r135.2 (binA Try.prog .add 3 (get (prune kp_l03_PowerPlays (prune kp_l03_PowerPlays (prune kp_l03_PowerPlays (prune kp_l03_PowerPlays (prune kp_l03_PowerPlays (prune kp_l03_PowerPlays s.env)))))) 5) (.v (Go.Value.int Go.IntKind.i64 1)))).bind fun r136 =>
  some (.normal, ⟨((5, r136.1) :: (67, r135.1) :: (28, r122.1) :: (46, r103.1) :: (29, r79.1) :: (23, r78.1) :: (15, r74.1) :: (prune kp_l03_PowerPlays (prune kp_l03_PowerPlays (prune kp_l03_PowerPlays (prune kp_l03_PowerPlays (prune kp_l03_PowerPlays (prune kp_l03_PowerPlays (prune kp_l03_PowerPlays s.env)))))))), r136.2⟩)))))) (some (.exit 0, ⟨((15, r74.1) :: (prune kp_l03_PowerPlays s.env)), r74.2⟩))
noncomputable def B_l03_PowerPlays_0 (E : FnA) (_n _n0 : Nat) (x5 x4 x3 x2 x0 : AV) (y : Bx) : Option (Ex × S) :=
  (pv y (lenA Try.prog 30 x0)).bind fun r3 =>
  (pv r3.2 (binA Try.prog .lss 3 x5 r3.1)).bind fun r4 =>
  (gsel true r4.2 (some (x5, r4.2)) r4.1).bind fun r5 =>
  (gsel true r5.2 (pv r5.2 (binA Try.prog .lss 3 r5.1 (.v (Go.Value.int Go.IntKind.i64 100)))) r4.1).bind fun r6 =>
  (pv r6.2 (pickA r4.1 r6.1 (.v (Go.Value.bool false)))).bind fun r7 =>
  condA r7.1 ((pv r7.2 (indexAddrA Try.prog 30 x0 x5)).bind fun r8 =>
  (pv r8.2 (fieldAddrA Try.prog 35 r8.1 0)).bind fun r9 =>
  (pv r9.2 (loadA Try.prog 3 r9.2 r9.1)).bind fun r10 =>
  (callA E md_l03_PowerPlays r10.2 13 [r10.1, (.v (Go.Value.int Go.IntKind.i64 7))]).bind fun r11 =>
  (pv r11.2 (binA Try.prog .eql 3 r11.1 (.v (Go.Value.int Go.IntKind.i64 5)))).bind fun r12 =>
  condA r12.1 ((pv r12.2 (indexAddrA Try.prog 30 x0 x5)).bind fun r13 =>
  (pv r13.2 (fieldAddrA Try.prog 35 r13.1 1)).bind fun r14 =>
  (pv r14.2 (loadA Try.prog 3 r14.2 r14.1)).bind fun r15 =>
  (callA E md_l03_PowerPlays r15.2 8 [x3, r15.1]).bind fun r16 =>
  (pv r16.2 (indexAddrA Try.prog 30 x0 x5)).bind fun r17 =>
  (pv r17.2 (fieldAddrA Try.prog 35 r17.1 1)).bind fun r18 =>
  (guardB (apartV .ns r18.1 && true)).bind fun _ =>
  (pv r18.2 (loadA Try.prog 3 r18.2 r18.1)).bind fun r19 =>
  (callA E md_l03_PowerPlays r19.2 14 [x4, r19.1]).bind fun r20 =>
  (pv r20.2 (binA Try.prog .neq 25 r16.1 r20.1)).bind fun r21 =>
  condA r21.1 (some (.ret, ⟨[(2, (.v (Go.Value.bool false))), (45, r21.1), (29, r12.1), (23, r11.1), (15, r7.1), (5, x5), (4, x4), (3, x3), (2, x2), (0, x0)], r21.2⟩)) ((callA E md_l03_PowerPlays r21.2 11 [x3]).bind fun r22 =>
  (pv r22.2 (nilA x4)).bind fun r23 =>
  (pv r23.2 (fieldAddrA Try.prog 37 r23.1 2)).bind fun r24 =>
  (pv r24.2 (loadA Try.prog 4 r24.2 r24.1)).bind fun r25 =>
  (pv r25.2 (binA Try.prog .neq 4 r22.1 r25.1)).bind fun r26 =>
  (gsel false r26.2 (some (x3, r26.2)) r26.1).bind fun r27 =>
  (gsel false r27.2 (callA E md_l03_PowerPlays r27.2 10 [r27.1]) r26.1).bind fun r28 =>
  (gsel false r28.2 (some (x4, r28.2)) r26.1).bind fun r29 =>
  (gsel false r29.2 (pv r29.2 (nilA r29.1)) r26.1).bind fun r30 =>
  (gsel false r30.2 (pv r30.2 (fieldAddrA Try.prog 37 r30.1 1)) r26.1).bind fun r31 =>
  (gsel false r31.2 (pv r31.2 (loadA Try.prog 3 r31.2 r31.1)) r26.1).bind fun r32 =>
  (gsel false r32.2 (pv r32.2 (binA Try.prog .neq 3 r28.1 r32.1)) r26.1).bind fun r33 =>
  (pv r33.2 (pickA r26.1 (.v (Go.Value.bool true)) r33.1)).bind fun r34 =>
  condA r34.1 (some (.ret, ⟨[(2, (.v (Go.Value.bool false))), (67, r34.1), (45, r21.1), (29, r12.1), (23, r11.1), (15, r7.1), (5, x5), (4, x4), (3, x3), (2, x2), (0, x0)], r34.2⟩)) ((pv r34.2 (binA Try.prog .add 3 x5 (.v (Go.Value.int Go.IntKind.i64 1)))).bind fun r35 =>
  some (.normal, ⟨[(5, r35.1), (67, r34.1), (45, r21.1), (29, r12.1), (23, r11.1), (15, r7.1), (5, x5), (4, x4), (3, x3), (2, x2), (0, x0)], r35.2⟩)))) ((pv r12.2 (binA Try.prog .eql 3 r11.1 (.v (Go.Value.int Go.IntKind.i64 6)))).bind fun r36 =>
  condA r36.1 ((callA E md_l03_PowerPlays r36.2 15 [x3]).bind fun r37 =>
  (callA E md_l03_PowerPlays r37.2 16 [x4]).bind fun r38 =>
  (callA E md_l03_PowerPlays r38.2 11 [x3]).bind fun r39 =>
  (pv r39.2 (nilA x4)).bind fun r40 =>
  (pv r40.2 (fieldAddrA Try.prog 37 r40.1 2)).bind fun r41 =>
  (pv r41.2 (loadA Try.prog 4 r41.2 r41.1)).bind fun r42 =>
  (pv r42.2 (binA Try.prog .neq 4 r39.1 r42.1)).bind fun r43 =>
  (gsel false r43.2 (some (x3, r43.2)) r43.1).bind fun r44 =>
  (gsel false r44.2 (callA E md_l03_PowerPlays r44.2 10 [r44.1]) r43.1).bind fun r45 =>
  (gsel false r45.2 (some (x4, r45.2)) r43.1).bind fun r46 =>
  (gsel false r46.2 (pv r46.2 (nilA r46.1)) r43.1).bind fun r47 =>
  (gsel false r47.2 (pv r47.2 (fieldAddrA Try.prog 37 r47.1 1)) r43.1).bind fun r48 =>
  (gsel false r48.2 (pv r48.2 (loadA Try.prog 3 r48.2 r48.1)) r43.1).bind fun r49 =>
  (gsel false r49.2 (pv r49.2 (binA Try.prog .neq 3 r45.1 r49.1)) r43.1).bind fun r50 =>
  (pv r50.2 (pickA r43.1 (.v (Go.Value.bool true)) r50.1)).bind fun r51 =>
  condA r51.1 (some (.ret, ⟨[(2, (.v (Go.Value.bool false))), (67, r51.1), (46, r36.1), (29, r12.1), (23, r11.1), (15, r7.1), (5, x5), (4, x4), (3, x3), (2, x2), (0, x0)], r51.2⟩)) ((pv r51.2 (binA Try.prog .add 3 x5 (.v (Go.Value.int Go.IntKind.i64 1)))).bind fun r52 =>
  some (.normal, ⟨[(5, r52.1), (67, r51.1), (46, r36.1), (29, r12.1), (23, r11.1), (15, r7.1), (5, x5), (4, x4), (3, x3), (2, x2), (0, x0)], r52.2⟩))) ((callA E md_l03_PowerPlays r36.2 9 [x3]).bind fun r53 =>
  (callA E md_l03_PowerPlays r53.2 17 [x4]).bind fun r54 =>
  (pv r54.2 (binA Try.prog .neq 25 r53.1 r54.1)).bind fun r55 =>
  condA r55.1 (some (.ret, ⟨[(2, (.v (Go.Value.bool false))), (28, r55.1), (46, r36.1), (29, r12.1), (23, r11.1), (15, r7.1), (5, x5), (4, x4), (3, x3), (2, x2), (0, x0)], r55.2⟩)) ((callA E md_l03_PowerPlays r55.2 11 [x3]).bind fun r56 =>
  (pv r56.2 (nilA x4)).bind fun r57 =>
  (pv r57.2 (fieldAddrA Try.prog 37 r57.1 2)).bind fun r58 =>
  (pv r58.2 (loadA Try.prog 4 r58.2 r58.1)).bind fun r59 =>
  (pv r59.2 (binA Try.prog .neq 4 r56.1 r59.1)).bind fun r60 =>
  (gsel false r60.2 (some (x3, r60.2)) r60.1).bind fun r61 =>
  (gsel false r61.2 (callA E md_l03_PowerPlays r61.2 10 [r61.1]) r60.1).bind fun r62 =>
  (gsel false r62.2 (some (x4, r62.2)) r60.1).bind fun r63 =>
  (gsel false r63.2 (pv r63.2 (nilA r63.1)) r60.1).bind fun r64 =>
  (gsel false r64.2 (pv r64.2 (fieldAddrA Try.prog 37 r64.1 1)) r60.1).bind fun r65 =>
  (gsel false r65.2 (pv r65.2 (loadA Try.prog 3 r65.2 r65.1)) r60.1).bind fun r66 =>
  (gsel false r66.2 (pv r66.2 (binA Try.prog .neq 3 r62.1 r66.1)) r60.1).bind fun r67 =>
  (pv r67.2 (pickA r60.1 (.v (Go.Value.bool true)) r67.1)).bind fun r68 =>
  condA r68.1 (some (.ret, ⟨[(2, (.v (Go.Value.bool false))), (67, r68.1), (28, r55.1), (46, r36.1), (29, r12.1), (23, r11.1), (15, r7.1), (5, x5), (4, x4), (3, x3), (2, x2), (0, x0)], r68.2⟩)) ((pv r68.2 (binA Try.prog .add 3 x5 (.v (Go.Value.int Go.IntKind.i64 1)))).bind fun r69 =>
  some (.normal, ⟨[(5, r69.1), (67, r68.1), (28, r55.1), (46, r36.1), (29, r12.1), (23, r11.1), (15, r7.1), (5, x5), (4, x4), (3, x3), (2, x2), (0, x0)], r69.2⟩)))))) (some (.exit 0, ⟨[(15, r7.1), (5, x5), (4, x4), (3, x3), (2, x2), (0, x0)], r7.2⟩))
theorem L_l03_PowerPlays_0_lit {E : FnA} {n n0 : Nat} {x5 x4 x3 x2 x0 : AV} {y : Bx} {Q : Ex → S → Prop} (h : Ends (B_l03_PowerPlays_0 E n n0 x5 x4 x3 x2 x0 y) Q) : Ends (L_l03_PowerPlays_0 E n n0 ⟨[(5, x5), (4, x4), (3, x3), (2, x2), (0, x0)], y⟩) Q := by
  rw [show L_l03_PowerPlays_0 E n n0 ⟨[(5, x5), (4, x4), (3, x3), (2, x2), (0, x0)], y⟩ = B_l03_PowerPlays_0 E n n0 x5 x4 x3 x2 x0 y by kernel_rfl]
  exact h
noncomputable def K_l03_PowerPlays_0 (E : FnA) (_n _n0 : Nat) (t : S) : Option (Ex × S) :=
  (callA E md_l03_PowerPlays t.bx 6 []).bind fun r138 =>
  some (.ret, ⟨((2, r138.1) :: (prune kp_l03_PowerPlays t.env)), r138.2⟩)
noncomputable def X_l03_PowerPlays_0 (E : FnA) (_n _n0 : Nat) (i : Nat) (t : S) : Option (Ex × S) :=
  if i = 0 then (callA E md_l03_PowerPlays t.bx 6 []).bind fun r137 =>
  some (.ret, ⟨((2, r137.1) :: (prune kp_l03_PowerPlays t.env)), r137.2⟩) else some (.exit i, ⟨t.env, t.bx⟩)
noncomputable def X_l03_PowerPlays_0_0 (E : FnA) (_n _n0 : Nat) (x15 x5 x4 x3 x2 x0 : AV) (y : Bx) : Option (Ex × S) :=
  (callA E md_l03_PowerPlays y 6 []).bind fun r139 =>
  some (.ret, ⟨[(2, r139.1), (15, x15), (5, x5), (4, x4), (3, x3), (2, x2), (0, x0)], r139.2⟩)
theorem X_l03_PowerPlays_0_0_lit {E : FnA} {n n0 : Nat} {x15 x5 x4 x3 x2 x0 : AV} {y : Bx} {Q : Ex → S → Prop} (h : Ends (X_l03_PowerPlays_0_0 E n n0 x15 x5 x4 x3 x2 x0 y) Q) : Ends (X_l03_PowerPlays_0 E n n0 0 ⟨[(15, x15), (5, x5), (4, x4), (3, x3), (2, x2), (0, x0)], y⟩) Q := by
  rw [show X_l03_PowerPlays_0 E n n0 0 ⟨[(15, x15), (5, x5), (4, x4), (3, x3), (2, x2), (0, x0)], y⟩ = X_l03_PowerPlays_0_0 E n n0 x15 x5 x4 x3 x2 x0 y by kernel_rfl]
  exact h
noncomputable def F_l03_PowerPlays (E : FnA) (n n0 : Nat) (a0 : AV) (bx : Bx) : Option (Ex × S) :=
  (callA E md_l03_PowerPlays bx 7 []).bind fun r1 =>
  (callA E md_l03_PowerPlays r1.2 12 []).bind fun r2 =>
  exitA (iter ⟨[(5, (.v (Go.Value.int Go.IntKind.i64 0))), (4, r2.1), (3, r1.1), (2, (.v (Go.Value.bool false))), (0, a0)], r2.2⟩ (L_l03_PowerPlays_0 E n n0) n ⟨[(5, (.v (Go.Value.int Go.IntKind.i64 0))), (4, r2.1), (3, r1.1), (2, (.v (Go.Value.bool false))), (0, a0)], r2.2⟩) (K_l03_PowerPlays_0 E n n0) (X_l03_PowerPlays_0 E n n0)
theorem c_l03_PowerPlays_eq : Try.f4.body = some c_l03_PowerPlays := by kernel_rfl
theorem d_l03_PowerPlays : drawsOk Try.prog md_l03_PowerPlays c_l03_PowerPlays = true := by kernel_rfl
theorem F_l03_PowerPlays_eq (E : FnA) (n n0 : Nat) (a0 : AV) (bx : Bx) : evK Try.prog md_l03_PowerPlays E 69 kp_l03_PowerPlays n n0 c_l03_PowerPlays ⟨[(0, a0)], bx⟩ (fun s => some (.normal, s)) (fun i s => some (.exit i, s)) = F_l03_PowerPlays E n n0 a0 bx := by kernel_rfl

theorem E_l03_PowerPlays (n : Nat) (a0 : AV) (bx : Bx) : evFn cx0 ext0 (n + 1) 4 [a0] bx = fin Try.prog [.tmp 2] (F_l03_PowerPlays (evFn cx0 ext0 n) n bx.length a0 bx) := by
  rw [evFn_eq2 (cx := cx0) (c := c_l03_PowerPlays) rfl Try.func4 c_l03_PowerPlays_eq (of_decide_eq_true (by kernel_rfl)) d_l03_PowerPlays (of_decide_eq_true (by kernel_rfl))]
  exact congrArg (fin Try.prog [.tmp 2]) (F_l03_PowerPlays_eq (evFn cx0 ext0 n) n bx.length a0 bx)

/-- scupper/scupperlaw03.PowerVoid -/
def kp_l03_PowerVoid : Option (List Nat) := some [0, 2, 3, 5]
noncomputable def c_l03_PowerVoid : Code := Try.f5.body.getD .skip
noncomputable def F_l03_PowerVoid (E : FnA) (_n _n0 : Nat) (a0 : AV) (bx : Bx) : Option (Ex × S) :=
  (callA E md_l03_PowerVoid bx 6 []).bind fun r1 =>
  (pv r1.2 (unA .not r1.1)).bind fun r2 =>
  condA r2.1 (some (.ret, ⟨[(2, (.v (Go.Value.bool false))), (5, r2.1), (2, (.v (Go.Value.bool false))), (0, a0)], r2.2⟩)) ((callA E md_l03_PowerVoid r2.2 15 [(.v (Go.Value.pointer none))]).bind fun r3 =>
  (callA E md_l03_PowerVoid r3.2 8 [(.v (Go.Value.pointer none)), a0]).bind fun r4 =>
  (pv r4.2 (binA Try.prog .eql 25 r4.1 (.v (Go.Value.int Go.IntKind.i64 2)))).bind fun r5 =>
  (gsel true r5.2 (some ((.v (Go.Value.pointer none)), r5.2)) r5.1).bind fun r6 =>
  (gsel true r6.2 (callA E md_l03_PowerVoid r6.2 9 [r6.1]) r5.1).bind fun r7 =>
  (gsel true r7.2 (pv r7.2 (binA Try.prog .eql 25 r7.1 (.v (Go.Value.int Go.IntKind.i64 0)))) r5.1).bind fun r8 =>
  (pv r8.2 (pickA r5.1 r8.1 (.v (Go.Value.bool false)))).bind fun r9 =>
  (gsel true r9.2 (some ((.v (Go.Value.pointer none)), r9.2)) r9.1).bind fun r10 =>
  (gsel true r10.2 (callA E md_l03_PowerVoid r10.2 11 [r10.1]) r9.1).bind fun r11 =>
  (gsel true r11.2 (pv r11.2 (unA .not r11.1)) r9.1).bind fun r12 =>
  (pv r12.2 (pickA r9.1 r12.1 (.v (Go.Value.bool false)))).bind fun r13 =>
  (gsel true r13.2 (some ((.v (Go.Value.pointer none)), r13.2)) r13.1).bind fun r14 =>
  (gsel true r14.2 (callA E md_l03_PowerVoid r14.2 10 [r14.1]) r13.1).bind fun r15 =>
  (gsel true r15.2 (pv r15.2 (binA Try.prog .eql 3 r15.1 (.v (Go.Value.int Go.IntKind.i64 0)))) r13.1).bind fun r16 =>
  (pv r16.2 (pickA r13.1 r16.1 (.v (Go.Value.bool false)))).bind fun r17 =>
  some (.ret, ⟨[(2, r17.1), (3, (.v (Go.Value.pointer none))), (5, r2.1), (2, (.v (Go.Value.bool false))), (0, a0)], r17.2⟩))
theorem c_l03_PowerVoid_eq : Try.f5.body = some c_l03_PowerVoid := by kernel_rfl
theorem d_l03_PowerVoid : drawsOk Try.prog md_l03_PowerVoid c_l03_PowerVoid = true := by kernel_rfl
theorem F_l03_PowerVoid_eq (E : FnA) (n n0 : Nat) (a0 : AV) (bx : Bx) : evK Try.prog md_l03_PowerVoid E 27 kp_l03_PowerVoid n n0 c_l03_PowerVoid ⟨[(0, a0)], bx⟩ (fun s => some (.normal, s)) (fun i s => some (.exit i, s)) = F_l03_PowerVoid E n n0 a0 bx := by kernel_rfl

theorem E_l03_PowerVoid (n : Nat) (a0 : AV) (bx : Bx) : evFn cx0 ext0 (n + 1) 5 [a0] bx = fin Try.prog [.tmp 2] (F_l03_PowerVoid (evFn cx0 ext0 n) n bx.length a0 bx) := by
  rw [evFn_eq2 (cx := cx0) (c := c_l03_PowerVoid) rfl Try.func5 c_l03_PowerVoid_eq (of_decide_eq_true (by kernel_rfl)) d_l03_PowerVoid (of_decide_eq_true (by kernel_rfl))]
  exact congrArg (fin Try.prog [.tmp 2]) (F_l03_PowerVoid_eq (evFn cx0 ext0 n) n bx.length a0 bx)

/-- scupper/scupperlaw03.works -/
def kp_l03_works : Option (List Nat) := some [0, 1, 2, 3, 4]
noncomputable def c_l03_works : Code := Try.f6.body.getD .skip
noncomputable def F_l03_works (E : FnA) (_n _n0 : Nat) (bx : Bx) : Option (Ex × S) :=
  (callA E md_l03_works bx 7 []).bind fun r1 =>
  (callA E md_l03_works r1.2 8 [r1.1, (.v (Go.Value.int Go.IntKind.i64 1))]).bind fun r2 =>
  (callA E md_l03_works r2.2 9 [r1.1]).bind fun r3 =>
  (callA E md_l03_works r3.2 9 [r1.1]).bind fun r4 =>
  (pv r4.2 (binA Try.prog .eql 25 r2.1 (.v (Go.Value.int Go.IntKind.i64 0)))).bind fun r5 =>
  (gsel true r5.2 (some (r3.1, r5.2)) r5.1).bind fun r6 =>
  (gsel true r6.2 (pv r6.2 (binA Try.prog .eql 25 r6.1 (.v (Go.Value.int Go.IntKind.i64 0)))) r5.1).bind fun r7 =>
  (pv r7.2 (pickA r5.1 r7.1 (.v (Go.Value.bool false)))).bind fun r8 =>
  (gsel true r8.2 (some (r4.1, r8.2)) r8.1).bind fun r9 =>
  (gsel true r9.2 (pv r9.2 (binA Try.prog .eql 25 r9.1 (.v (Go.Value.int Go.IntKind.i64 20)))) r8.1).bind fun r10 =>
  (pv r10.2 (pickA r8.1 r10.1 (.v (Go.Value.bool false)))).bind fun r11 =>
  (gsel true r11.2 (some (r1.1, r11.2)) r11.1).bind fun r12 =>
  (gsel true r12.2 (callA E md_l03_works r12.2 11 [r12.1]) r11.1).bind fun r13 =>
  (pv r13.2 (pickA r11.1 r13.1 (.v (Go.Value.bool false)))).bind fun r14 =>
  (gsel true r14.2 (some (r1.1, r14.2)) r14.1).bind fun r15 =>
  (gsel true r15.2 (callA E md_l03_works r15.2 10 [r15.1]) r14.1).bind fun r16 =>
  (gsel true r16.2 (pv r16.2 (binA Try.prog .eql 3 r16.1 (.v (Go.Value.int Go.IntKind.i64 1)))) r14.1).bind fun r17 =>
  (pv r17.2 (pickA r14.1 r17.1 (.v (Go.Value.bool false)))).bind fun r18 =>
  some (.ret, ⟨[(0, r18.1), (4, r4.1), (3, r3.1), (2, r2.1), (1, r1.1), (0, (.v (Go.Value.bool false)))], r18.2⟩)
theorem c_l03_works_eq : Try.f6.body = some c_l03_works := by kernel_rfl
theorem d_l03_works : drawsOk Try.prog md_l03_works c_l03_works = true := by kernel_rfl
theorem F_l03_works_eq (E : FnA) (n n0 : Nat) (bx : Bx) : evK Try.prog md_l03_works E 31 kp_l03_works n n0 c_l03_works ⟨[], bx⟩ (fun s => some (.normal, s)) (fun i s => some (.exit i, s)) = F_l03_works E n n0  bx := by kernel_rfl

theorem E_l03_works (n : Nat) (bx : Bx) : evFn cx0 ext0 (n + 1) 6 [] bx = fin Try.prog [.tmp 0] (F_l03_works (evFn cx0 ext0 n) n bx.length  bx) := by
  rw [evFn_eq2 (cx := cx0) (c := c_l03_works) rfl Try.func6 c_l03_works_eq (of_decide_eq_true (by kernel_rfl)) d_l03_works (of_decide_eq_true (by kernel_rfl))]
  exact congrArg (fin Try.prog [.tmp 0]) (F_l03_works_eq (evFn cx0 ext0 n) n bx.length  bx)

/-- scupper/power.New -/
def kp_power_New : Option (List Nat) := some [0]
noncomputable def c_power_New : Code := Try.f7.body.getD .skip
noncomputable def F_power_New (_E : FnA) (_n _n0 : Nat) (bx : Bx) : Option (Ex × S) :=
  (pv bx (buildA Try.prog 41 [(0, (.v (Go.Value.int Go.IntKind.i64 (-1))))])).bind fun r1 =>
  (boxA r1.2 r1.1).bind fun r2 =>
  some (.ret, ⟨[(0, r2.1), (0, (.v (Go.Value.pointer none)))], r2.2⟩)
theorem c_power_New_eq : Try.f7.body = some c_power_New := by kernel_rfl
theorem d_power_New : drawsOk Try.prog md0 c_power_New = true := by kernel_rfl
theorem F_power_New_eq (E : FnA) (n n0 : Nat) (bx : Bx) : evK Try.prog md0 E 3 kp_power_New n n0 c_power_New ⟨[], bx⟩ (fun s => some (.normal, s)) (fun i s => some (.exit i, s)) = F_power_New E n n0  bx := by kernel_rfl

theorem E_power_New (n : Nat) (bx : Bx) : evFn cx0 ext0 (n + 1) 7 [] bx = fin Try.prog [.tmp 0] (F_power_New (evFn cx0 ext0 n) n bx.length  bx) := by
  rw [evFn_eq2 (cx := cx0) (c := c_power_New) rfl Try.func7 c_power_New_eq (of_decide_eq_true (by kernel_rfl)) d_power_New (of_decide_eq_true (by kernel_rfl))]
  exact congrArg (fin Try.prog [.tmp 0]) (F_power_New_eq (evFn cx0 ext0 n) n bx.length  bx)

/-- (*scupper/power.Supply).Limit -/
def kp_power_Supply_Limit : Option (List Nat) := some [0, 1, 4, 10]
noncomputable def c_power_Supply_Limit : Code := Try.f8.body.getD .skip
noncomputable def F_power_Supply_Limit (_E : FnA) (_n _n0 : Nat) (a0 a1 : AV) (bx : Bx) : Option (Ex × S) :=
  (pv bx (binA Try.prog .eql 23 a0 (.v (Go.Value.pointer none)))).bind fun r1 =>
  (gsel false r1.2 (some (a1, r1.2)) r1.1).bind fun r2 =>
  (gsel false r2.2 (pv r2.2 (binA Try.prog .lss 3 r2.1 (.v (Go.Value.int Go.IntKind.i64 0)))) r1.1).bind fun r3 =>
  (pv r3.2 (pickA r1.1 (.v (Go.Value.bool true)) r3.1)).bind fun r4 =>
  condA r4.1 (some (.ret, ⟨[(4, (.v (Go.Value.int Go.IntKind.i64 2))), (10, r4.1), (4, (.v (Go.Value.int Go.IntKind.i64 0))), (0, a0), (1, a1)], r4.2⟩)) ((pv r4.2 (nilA a0)).bind fun r5 =>
  (pv r5.2 (fieldAddrA Try.prog 41 r5.1 0)).bind fun r6 =>
  (stA Try.prog 3 r6.2 r6.1 a1).bind fun r7 =>
  some (.ret, ⟨[(4, (.v (Go.Value.int Go.IntKind.i64 0))), (10, r4.1), (4, (.v (Go.Value.int Go.IntKind.i64 0))), (0, a0), (1, a1)], r7.2⟩))
theorem c_power_Supply_Limit_eq : Try.f8.body = some c_power_Supply_Limit := by kernel_rfl
theorem d_power_Supply_Limit : drawsOk Try.prog md0 c_power_Supply_Limit = true := by kernel_rfl
theorem F_power_Supply_Limit_eq (E : FnA) (n n0 : Nat) (a0 a1 : AV) (bx : Bx) : evK Try.prog md0 E 15 kp_power_Supply_Limit n n0 c_power_Supply_Limit ⟨[(0, a0), (1, a1)], bx⟩ (fun s => some (.normal, s)) (fun i s => some (.exit i, s)) = F_power_Supply_Limit E n n0 a0 a1 bx := by kernel_rfl

theorem E_power_Supply_Limit (n : Nat) (a0 a1 : AV) (bx : Bx) : evFn cx0 ext0 (n + 1) 8 [a0, a1] bx = fin Try.prog [.tmp 4] (F_power_Supply_Limit (evFn cx0 ext0 n) n bx.length a0 a1 bx) := by
  rw [evFn_eq2 (cx := cx0) (c := c_power_Supply_Limit) rfl Try.func8 c_power_Supply_Limit_eq (of_decide_eq_true (by kernel_rfl)) d_power_Supply_Limit (of_decide_eq_true (by kernel_rfl))]
  exact congrArg (fin Try.prog [.tmp 4]) (F_power_Supply_Limit_eq (evFn cx0 ext0 n) n bx.length a0 a1 bx)

/-- (*scupper/power.Supply).Used -/
def kp_power_Supply_Used : Option (List Nat) := some [0, 2, 4]
noncomputable def c_power_Supply_Used : Code := Try.f10.body.getD .skip
noncomputable def F_power_Supply_Used (_E : FnA) (_n _n0 : Nat) (a0 : AV) (bx : Bx) : Option (Ex × S) :=
  (pv bx (binA Try.prog .eql 23 a0 (.v (Go.Value.pointer none)))).bind fun r1 =>
  condA r1.1 (some (.ret, ⟨[(2, (.v (Go.Value.int Go.IntKind.i64 0))), (4, r1.1), (2, (.v (Go.Value.int Go.IntKind.i64 0))), (0, a0)], r1.2⟩)) ((pv r1.2 (nilA a0)).bind fun r2 =>
  (pv r2.2 (fieldAddrA Try.prog 41 r2.1 1)).bind fun r3 =>
  (pv r3.2 (loadA Try.prog 3 r3.2 r3.1)).bind fun r4 =>
  some (.ret, ⟨[(2, r4.1), (4, r1.1), (2, (.v (Go.Value.int Go.IntKind.i64 0))), (0, a0)], r4.2⟩))
theorem c_power_Supply_Used_eq : Try.f10.body = some c_power_Supply_Used := by kernel_rfl
theorem d_power_Supply_Used : drawsOk Try.prog md0 c_power_Supply_Used = true := by kernel_rfl
theorem F_power_Supply_Used_eq (E : FnA) (n n0 : Nat) (a0 : AV) (bx : Bx) : evK Try.prog md0 E 9 kp_power_Supply_Used n n0 c_power_Supply_Used ⟨[(0, a0)], bx⟩ (fun s => some (.normal, s)) (fun i s => some (.exit i, s)) = F_power_Supply_Used E n n0 a0 bx := by kernel_rfl

theorem E_power_Supply_Used (n : Nat) (a0 : AV) (bx : Bx) : evFn cx0 ext0 (n + 1) 10 [a0] bx = fin Try.prog [.tmp 2] (F_power_Supply_Used (evFn cx0 ext0 n) n bx.length a0 bx) := by
  rw [evFn_eq2 (cx := cx0) (c := c_power_Supply_Used) rfl Try.func10 c_power_Supply_Used_eq (of_decide_eq_true (by kernel_rfl)) d_power_Supply_Used (of_decide_eq_true (by kernel_rfl))]
  exact congrArg (fin Try.prog [.tmp 2]) (F_power_Supply_Used_eq (evFn cx0 ext0 n) n bx.length a0 bx)

/-- (*scupper/power.Supply).Gone -/
def kp_power_Supply_Gone : Option (List Nat) := some [0, 2]
noncomputable def c_power_Supply_Gone : Code := Try.f11.body.getD .skip
noncomputable def F_power_Supply_Gone (_E : FnA) (_n _n0 : Nat) (a0 : AV) (bx : Bx) : Option (Ex × S) :=
  (pv bx (binA Try.prog .neq 23 a0 (.v (Go.Value.pointer none)))).bind fun r1 =>
  (gsel true r1.2 (some (a0, r1.2)) r1.1).bind fun r2 =>
  (gsel true r2.2 (pv r2.2 (nilA r2.1)) r1.1).bind fun r3 =>
  (gsel true r3.2 (pv r3.2 (fieldAddrA Try.prog 41 r3.1 2)) r1.1).bind fun r4 =>
  (gsel true r4.2 (pv r4.2 (loadA Try.prog 4 r4.2 r4.1)) r1.1).bind fun r5 =>
  (pv r5.2 (pickA r1.1 r5.1 (.v (Go.Value.bool false)))).bind fun r6 =>
  some (.ret, ⟨[(2, r6.1), (2, (.v (Go.Value.bool false))), (0, a0)], r6.2⟩)
theorem c_power_Supply_Gone_eq : Try.f11.body = some c_power_Supply_Gone := by kernel_rfl
theorem d_power_Supply_Gone : drawsOk Try.prog md0 c_power_Supply_Gone = true := by kernel_rfl
theorem F_power_Supply_Gone_eq (E : FnA) (n n0 : Nat) (a0 : AV) (bx : Bx) : evK Try.prog md0 E 11 kp_power_Supply_Gone n n0 c_power_Supply_Gone ⟨[(0, a0)], bx⟩ (fun s => some (.normal, s)) (fun i s => some (.exit i, s)) = F_power_Supply_Gone E n n0 a0 bx := by kernel_rfl

theorem E_power_Supply_Gone (n : Nat) (a0 : AV) (bx : Bx) : evFn cx0 ext0 (n + 1) 11 [a0] bx = fin Try.prog [.tmp 2] (F_power_Supply_Gone (evFn cx0 ext0 n) n bx.length a0 bx) := by
  rw [evFn_eq2 (cx := cx0) (c := c_power_Supply_Gone) rfl Try.func11 c_power_Supply_Gone_eq (of_decide_eq_true (by kernel_rfl)) d_power_Supply_Gone (of_decide_eq_true (by kernel_rfl))]
  exact congrArg (fin Try.prog [.tmp 2]) (F_power_Supply_Gone_eq (evFn cx0 ext0 n) n bx.length a0 bx)

/-- scupper/scupperref03.New -/
def kp_r03_New : Option (List Nat) := some [0]
noncomputable def c_r03_New : Code := Try.f12.body.getD .skip
noncomputable def F_r03_New (_E : FnA) (_n _n0 : Nat) (bx : Bx) : Option (Ex × S) :=
  (pv bx (buildA Try.prog 37 [(0, (.v (Go.Value.int Go.IntKind.i64 (-1))))])).bind fun r1 =>
  (boxA r1.2 r1.1).bind fun r2 =>
  some (.ret, ⟨[(0, r2.1), (0, (.v (Go.Value.pointer none)))], r2.2⟩)
theorem c_r03_New_eq : Try.f12.body = some c_r03_New := by kernel_rfl
theorem d_r03_New : drawsOk Try.prog md0 c_r03_New = true := by kernel_rfl
theorem F_r03_New_eq (E : FnA) (n n0 : Nat) (bx : Bx) : evK Try.prog md0 E 3 kp_r03_New n n0 c_r03_New ⟨[], bx⟩ (fun s => some (.normal, s)) (fun i s => some (.exit i, s)) = F_r03_New E n n0  bx := by kernel_rfl

theorem E_r03_New (n : Nat) (bx : Bx) : evFn cx0 ext0 (n + 1) 12 [] bx = fin Try.prog [.tmp 0] (F_r03_New (evFn cx0 ext0 n) n bx.length  bx) := by
  rw [evFn_eq2 (cx := cx0) (c := c_r03_New) rfl Try.func12 c_r03_New_eq (of_decide_eq_true (by kernel_rfl)) d_r03_New (of_decide_eq_true (by kernel_rfl))]
  exact congrArg (fin Try.prog [.tmp 0]) (F_r03_New_eq (evFn cx0 ext0 n) n bx.length  bx)

/-- scupper/scupperbase.Among -/
def kp_base_Among : Option (List Nat) := some [0, 1, 4, 6]
noncomputable def c_base_Among : Code := Try.f13.body.getD .skip
noncomputable def F_base_Among (_E : FnA) (_n _n0 : Nat) (a0 a1 : AV) (bx : Bx) : Option (Ex × S) :=
  (pv bx (binA Try.prog .lss 3 a1 (.v (Go.Value.int Go.IntKind.i64 1)))).bind fun r1 =>
  condA r1.1 (some (.ret, ⟨[(4, (.v (Go.Value.int Go.IntKind.i64 0))), (6, r1.1), (4, (.v (Go.Value.int Go.IntKind.i64 0))), (0, a0), (1, a1)], r1.2⟩)) ((convA Try.prog r1.2 3 42 a0).bind fun r2 =>
  (convA Try.prog r2.2 3 42 a1).bind fun r3 =>
  (pv r3.2 (binA Try.prog .rem 42 r2.1 r3.1)).bind fun r4 =>
  (convA Try.prog r4.2 42 3 r4.1).bind fun r5 =>
  some (.ret, ⟨[(4, r5.1), (6, r1.1), (4, (.v (Go.Value.int Go.IntKind.i64 0))), (0, a0), (1, a1)], r5.2⟩))
theorem c_base_Among_eq : Try.f13.body = some c_base_Among := by kernel_rfl
theorem d_base_Among : drawsOk Try.prog md0 c_base_Among = true := by kernel_rfl
theorem F_base_Among_eq (E : FnA) (n n0 : Nat) (a0 a1 : AV) (bx : Bx) : evK Try.prog md0 E 13 kp_base_Among n n0 c_base_Among ⟨[(0, a0), (1, a1)], bx⟩ (fun s => some (.normal, s)) (fun i s => some (.exit i, s)) = F_base_Among E n n0 a0 a1 bx := by kernel_rfl

theorem E_base_Among (n : Nat) (a0 a1 : AV) (bx : Bx) : evFn cx0 ext0 (n + 1) 13 [a0, a1] bx = fin Try.prog [.tmp 4] (F_base_Among (evFn cx0 ext0 n) n bx.length a0 a1 bx) := by
  rw [evFn_eq2 (cx := cx0) (c := c_base_Among) rfl Try.func13 c_base_Among_eq (of_decide_eq_true (by kernel_rfl)) d_base_Among (of_decide_eq_true (by kernel_rfl))]
  exact congrArg (fin Try.prog [.tmp 4]) (F_base_Among_eq (evFn cx0 ext0 n) n bx.length a0 a1 bx)

/-- (*scupper/scupperref03.Supply).Limit -/
def kp_r03_Supply_Limit : Option (List Nat) := some [0, 1, 4, 6]
noncomputable def c_r03_Supply_Limit : Code := Try.f14.body.getD .skip
noncomputable def F_r03_Supply_Limit (_E : FnA) (_n _n0 : Nat) (a0 a1 : AV) (bx : Bx) : Option (Ex × S) :=
  (pv bx (binA Try.prog .lss 3 a1 (.v (Go.Value.int Go.IntKind.i64 0)))).bind fun r1 =>
  condA r1.1 (some (.ret, ⟨[(4, (.v (Go.Value.int Go.IntKind.i64 2))), (6, r1.1), (4, (.v (Go.Value.int Go.IntKind.i64 0))), (0, a0), (1, a1)], r1.2⟩)) ((pv r1.2 (nilA a0)).bind fun r2 =>
  (pv r2.2 (fieldAddrA Try.prog 37 r2.1 0)).bind fun r3 =>
  (stA Try.prog 3 r3.2 r3.1 a1).bind fun r4 =>
  some (.ret, ⟨[(4, (.v (Go.Value.int Go.IntKind.i64 0))), (6, r1.1), (4, (.v (Go.Value.int Go.IntKind.i64 0))), (0, a0), (1, a1)], r4.2⟩))
theorem c_r03_Supply_Limit_eq : Try.f14.body = some c_r03_Supply_Limit := by kernel_rfl
theorem d_r03_Supply_Limit : drawsOk Try.prog md0 c_r03_Supply_Limit = true := by kernel_rfl
theorem F_r03_Supply_Limit_eq (E : FnA) (n n0 : Nat) (a0 a1 : AV) (bx : Bx) : evK Try.prog md0 E 11 kp_r03_Supply_Limit n n0 c_r03_Supply_Limit ⟨[(0, a0), (1, a1)], bx⟩ (fun s => some (.normal, s)) (fun i s => some (.exit i, s)) = F_r03_Supply_Limit E n n0 a0 a1 bx := by kernel_rfl

theorem E_r03_Supply_Limit (n : Nat) (a0 a1 : AV) (bx : Bx) : evFn cx0 ext0 (n + 1) 14 [a0, a1] bx = fin Try.prog [.tmp 4] (F_r03_Supply_Limit (evFn cx0 ext0 n) n bx.length a0 a1 bx) := by
  rw [evFn_eq2 (cx := cx0) (c := c_r03_Supply_Limit) rfl Try.func14 c_r03_Supply_Limit_eq (of_decide_eq_true (by kernel_rfl)) d_r03_Supply_Limit (of_decide_eq_true (by kernel_rfl))]
  exact congrArg (fin Try.prog [.tmp 4]) (F_r03_Supply_Limit_eq (evFn cx0 ext0 n) n bx.length a0 a1 bx)

/-- (*scupper/power.Supply).Restore -/
def kp_power_Supply_Restore : Option (List Nat) := some [0, 3]
noncomputable def c_power_Supply_Restore : Code := Try.f15.body.getD .skip
noncomputable def F_power_Supply_Restore (_E : FnA) (_n _n0 : Nat) (a0 : AV) (bx : Bx) : Option (Ex × S) :=
  (pv bx (binA Try.prog .neq 23 a0 (.v (Go.Value.pointer none)))).bind fun r1 =>
  condA r1.1 ((pv r1.2 (nilA a0)).bind fun r2 =>
  (pv r2.2 (fieldAddrA Try.prog 41 r2.1 2)).bind fun r3 =>
  (stA Try.prog 4 r3.2 r3.1 (.v (Go.Value.bool false))).bind fun r4 =>
  (pv r4.2 (nilA a0)).bind fun r5 =>
  (pv r5.2 (fieldAddrA Try.prog 41 r5.1 0)).bind fun r6 =>
  (stA Try.prog 3 r6.2 r6.1 (.v (Go.Value.int Go.IntKind.i64 (-1)))).bind fun r7 =>
  some (.normal, ⟨[(3, r1.1), (0, a0)], r7.2⟩)) (some (.normal, ⟨[(3, r1.1), (0, a0)], r1.2⟩))
theorem c_power_Supply_Restore_eq : Try.f15.body = some c_power_Supply_Restore := by kernel_rfl
theorem d_power_Supply_Restore : drawsOk Try.prog md0 c_power_Supply_Restore = true := by kernel_rfl
theorem F_power_Supply_Restore_eq (E : FnA) (n n0 : Nat) (a0 : AV) (bx : Bx) : evK Try.prog md0 E 10 kp_power_Supply_Restore n n0 c_power_Supply_Restore ⟨[(0, a0)], bx⟩ (fun s => some (.normal, s)) (fun i s => some (.exit i, s)) = F_power_Supply_Restore E n n0 a0 bx := by kernel_rfl

theorem E_power_Supply_Restore (n : Nat) (a0 : AV) (bx : Bx) : evFn cx0 ext0 (n + 1) 15 [a0] bx = fin Try.prog [] (F_power_Supply_Restore (evFn cx0 ext0 n) n bx.length a0 bx) := by
  rw [evFn_eq2 (cx := cx0) (c := c_power_Supply_Restore) rfl Try.func15 c_power_Supply_Restore_eq (of_decide_eq_true (by kernel_rfl)) d_power_Supply_Restore (of_decide_eq_true (by kernel_rfl))]
  exact congrArg (fin Try.prog []) (F_power_Supply_Restore_eq (evFn cx0 ext0 n) n bx.length a0 bx)

/-- (*scupper/scupperref03.Supply).Restore -/
def kp_r03_Supply_Restore : Option (List Nat) := some [0]
noncomputable def c_r03_Supply_Restore : Code := Try.f16.body.getD .skip
noncomputable def F_r03_Supply_Restore (_E : FnA) (_n _n0 : Nat) (a0 : AV) (bx : Bx) : Option (Ex × S) :=
  (pv bx (nilA a0)).bind fun r1 =>
  (pv r1.2 (fieldAddrA Try.prog 37 r1.1 2)).bind fun r2 =>
  (stA Try.prog 4 r2.2 r2.1 (.v (Go.Value.bool false))).bind fun r3 =>
  (pv r3.2 (nilA a0)).bind fun r4 =>
  (pv r4.2 (fieldAddrA Try.prog 37 r4.1 0)).bind fun r5 =>
  (stA Try.prog 3 r5.2 r5.1 (.v (Go.Value.int Go.IntKind.i64 (-1)))).bind fun r6 =>
  some (.normal, ⟨[(0, a0)], r6.2⟩)
theorem c_r03_Supply_Restore_eq : Try.f16.body = some c_r03_Supply_Restore := by kernel_rfl
theorem d_r03_Supply_Restore : drawsOk Try.prog md0 c_r03_Supply_Restore = true := by kernel_rfl
theorem F_r03_Supply_Restore_eq (E : FnA) (n n0 : Nat) (a0 : AV) (bx : Bx) : evK Try.prog md0 E 8 kp_r03_Supply_Restore n n0 c_r03_Supply_Restore ⟨[(0, a0)], bx⟩ (fun s => some (.normal, s)) (fun i s => some (.exit i, s)) = F_r03_Supply_Restore E n n0 a0 bx := by kernel_rfl

theorem E_r03_Supply_Restore (n : Nat) (a0 : AV) (bx : Bx) : evFn cx0 ext0 (n + 1) 16 [a0] bx = fin Try.prog [] (F_r03_Supply_Restore (evFn cx0 ext0 n) n bx.length a0 bx) := by
  rw [evFn_eq2 (cx := cx0) (c := c_r03_Supply_Restore) rfl Try.func16 c_r03_Supply_Restore_eq (of_decide_eq_true (by kernel_rfl)) d_r03_Supply_Restore (of_decide_eq_true (by kernel_rfl))]
  exact congrArg (fin Try.prog []) (F_r03_Supply_Restore_eq (evFn cx0 ext0 n) n bx.length a0 bx)

/-- (*scupper/scupperref03.Supply).Use -/
def kp_r03_Supply_Use : Option (List Nat) := some [0, 2, 13, 21]
noncomputable def c_r03_Supply_Use : Code := Try.f17.body.getD .skip
noncomputable def F_r03_Supply_Use (_E : FnA) (_n _n0 : Nat) (a0 : AV) (bx : Bx) : Option (Ex × S) :=
  (pv bx (nilA a0)).bind fun r1 =>
  (pv r1.2 (fieldAddrA Try.prog 37 r1.1 2)).bind fun r2 =>
  (pv r2.2 (loadA Try.prog 4 r2.2 r2.1)).bind fun r3 =>
  (gsel false r3.2 (some (a0, r3.2)) r3.1).bind fun r4 =>
  (gsel false r4.2 (pv r4.2 (nilA r4.1)) r3.1).bind fun r5 =>
  (gsel false r5.2 (pv r5.2 (fieldAddrA Try.prog 37 r5.1 0)) r3.1).bind fun r6 =>
  (gsel false r6.2 (pv r6.2 (loadA Try.prog 3 r6.2 r6.1)) r3.1).bind fun r7 =>
  (gsel false r7.2 (pv r7.2 (binA Try.prog .eql 3 r7.1 (.v (Go.Value.int Go.IntKind.i64 0)))) r3.1).bind fun r8 =>
  (pv r8.2 (pickA r3.1 (.v (Go.Value.bool true)) r8.1)).bind fun r9 =>
  condA r9.1 ((pv r9.2 (nilA a0)).bind fun r10 =>
  (pv r10.2 (fieldAddrA Try.prog 37 r10.1 2)).bind fun r11 =>
  (stA Try.prog 4 r11.2 r11.1 (.v (Go.Value.bool true))).bind fun r12 =>
  some (.ret, ⟨[(2, (.v (Go.Value.int Go.IntKind.i64 20))), (13, r9.1), (2, (.v (Go.Value.int Go.IntKind.i64 0))), (0, a0)], r12.2⟩)) ((pv r9.2 (nilA a0)).bind fun r13 =>
  (pv r13.2 (fieldAddrA Try.prog 37 r13.1 0)).bind fun r14 =>
  (pv r14.2 (loadA Try.prog 3 r14.2 r14.1)).bind fun r15 =>
  (pv r15.2 (binA Try.prog .gtr 3 r15.1 (.v (Go.Value.int Go.IntKind.i64 0)))).bind fun r16 =>
  condA r16.1 ((pv r16.2 (nilA a0)).bind fun r17 =>
  (pv r17.2 (fieldAddrA Try.prog 37 r17.1 0)).bind fun r18 =>
  (pv r18.2 (loadA Try.prog 3 r18.2 r18.1)).bind fun r19 =>
  (pv r19.2 (binA Try.prog .sub 3 r19.1 (.v (Go.Value.int Go.IntKind.i64 1)))).bind fun r20 =>
  (pv r20.2 (nilA a0)).bind fun r21 =>
  (pv r21.2 (fieldAddrA Try.prog 37 r21.1 0)).bind fun r22 =>
  (stA Try.prog 3 r22.2 r22.1 r20.1).bind fun r23 =>
  (pv r23.2 (nilA a0)).bind fun r24 =>
  (pv r24.2 (fieldAddrA Try.prog 37 r24.1 1)).bind fun r25 =>
  (pv r25.2 (loadA Try.prog 3 r25.2 r25.1)).bind fun r26 =>
  (pv r26.2 (binA Try.prog .add 3 r26.1 (.v (Go.Value.int Go.IntKind.i64 1)))).bind fun r27 =>
  (pv r27.2 (nilA a0)).bind fun r28 =>
  (pv r28.2 (fieldAddrA Try.prog 37 r28.1 1)).bind fun r29 =>
  (stA Try.prog 3 r29.2 r29.1 r27.1).bind fun r30 =>
  some (.ret, ⟨[(2, (.v (Go.Value.int Go.IntKind.i64 0))), (21, r16.1), (13, r9.1), (2, (.v (Go.Value.int Go.IntKind.i64 0))), (0, a0)], r30.2⟩)) ((pv r16.2 (nilA a0)).bind fun r31 =>
  (pv r31.2 (fieldAddrA Try.prog 37 r31.1 1)).bind fun r32 =>
  (pv r32.2 (loadA Try.prog 3 r32.2 r32.1)).bind fun r33 =>
  (pv r33.2 (binA Try.prog .add 3 r33.1 (.v (Go.Value.int Go.IntKind.i64 1)))).bind fun r34 =>
  (pv r34.2 (nilA a0)).bind fun r35 =>
  (pv r35.2 (fieldAddrA Try.prog 37 r35.1 1)).bind fun r36 =>
  (stA Try.prog 3 r36.2 r36.1 r34.1).bind fun r37 =>
  some (.ret, ⟨[(2, (.v (Go.Value.int Go.IntKind.i64 0))), (21, r16.1), (13, r9.1), (2, (.v (Go.Value.int Go.IntKind.i64 0))), (0, a0)], r37.2⟩)))
theorem c_r03_Supply_Use_eq : Try.f17.body = some c_r03_Supply_Use := by kernel_rfl
theorem d_r03_Supply_Use : drawsOk Try.prog md0 c_r03_Supply_Use = true := by kernel_rfl
theorem F_r03_Supply_Use_eq (E : FnA) (n n0 : Nat) (a0 : AV) (bx : Bx) : evK Try.prog md0 E 36 kp_r03_Supply_Use n n0 c_r03_Supply_Use ⟨[(0, a0)], bx⟩ (fun s => some (.normal, s)) (fun i s => some (.exit i, s)) = F_r03_Supply_Use E n n0 a0 bx := by kernel_rfl

theorem E_r03_Supply_Use (n : Nat) (a0 : AV) (bx : Bx) : evFn cx0 ext0 (n + 1) 17 [a0] bx = fin Try.prog [.tmp 2] (F_r03_Supply_Use (evFn cx0 ext0 n) n bx.length a0 bx) := by
  rw [evFn_eq2 (cx := cx0) (c := c_r03_Supply_Use) rfl Try.func17 c_r03_Supply_Use_eq (of_decide_eq_true (by kernel_rfl)) d_r03_Supply_Use (of_decide_eq_true (by kernel_rfl))]
  exact congrArg (fin Try.prog [.tmp 2]) (F_r03_Supply_Use_eq (evFn cx0 ext0 n) n bx.length a0 bx)

end Go.Sy
