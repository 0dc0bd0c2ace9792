/-
  What the functions under a hand-walked function read as, in the reader's words; no conditions.
-/
import Derived.Test.YtjmdohmfienfoaaSyStep
import Derived.Test.YtjmdohmfienfoaaProg
import Derived.KernelRfl
namespace Go.Sy.Pre
open Go.Proofs
def kpT : FuncId → Option (List Nat)
  | 15 => some [0, 1, 2, 4, 5, 8]
  | 22 => some [0, 2]
  | 23 => some [0, 1, 4, 5, 6, 7]
  | 28 => some [0, 1, 2, 6, 7, 8, 9, 25, 26, 27, 28]
  | 29 => some [0, 1, 2, 6, 7, 8, 9, 25, 29]
  | 24 => some [0, 1, 4, 5, 6, 7]
  | 25 => some [0, 2]
  | 26 => some [0, 2]
  | 14 => some [0, 1, 4, 6]
  | _ => none
def mdT : FuncId → FuncId → Md
  | _ => md0
noncomputable def cx0 : Cx := { P := Try.prog, md := mdT, kp := kpT }
def ext0 : FnA := fun _ _ _ => none
theorem ext0_ok (f : FuncId) (args : List AV) (bx : Bx) (r : AV) (bx' : Bx) (h : ext0 f args bx = some (r, bx')) : Sound cx0.P f args bx r bx' := by simp [ext0] at h
/-- scupper/ptrs.At -/
def kp_ptrs_At : Option (List Nat) := some [0, 1, 2, 4, 5, 8]
noncomputable def c_ptrs_At : Code := Try.f15.body.getD .skip
noncomputable def F_ptrs_At (E : FnA) (_n _n0 : Nat) (a0 a1 : AV) (bx : Bx) : Option (Ex × S) :=
  (boxA bx a0).bind fun r1 =>
  (callA E md0 r1.2 22 [a1]).bind fun r2 =>
  (pv r2.2 (unA .not r2.1)).bind fun r3 =>
  condA r3.1 (some (.ret, ⟨[(5, (.v (Go.Value.int Go.IntKind.i64 2))), (4, (.v (Go.Value.int Go.IntKind.u16 0))), (8, r3.1), (5, (.v (Go.Value.int Go.IntKind.i64 0))), (4, (.v (Go.Value.int Go.IntKind.u16 0))), (2, r1.1), (0, a0), (1, a1)], r3.2⟩)) ((pv r3.2 (sliceA Try.prog r3.2 40 r1.1 none none none)).bind fun r4 =>
  (pv r4.2 (binA Try.prog .mul 3 (.v (Go.Value.int Go.IntKind.i64 2)) a1)).bind fun r5 =>
  (callA E md0 r5.2 23 [r4.1, r5.1]).bind fun r6 =>
  (pv r6.2 (tupA r6.1 0)).bind fun r7 =>
  (pv r7.2 (tupA r6.1 1)).bind fun r8 =>
  some (.ret, ⟨[(5, r8.1), (4, r7.1), (8, r3.1), (5, (.v (Go.Value.int Go.IntKind.i64 0))), (4, (.v (Go.Value.int Go.IntKind.u16 0))), (2, r1.1), (0, a0), (1, a1)], r8.2⟩))
theorem c_ptrs_At_eq : Try.f15.body = some c_ptrs_At := by kernel_rfl
theorem d_ptrs_At : drawsOk Try.prog md0 c_ptrs_At = true := by kernel_rfl
theorem F_ptrs_At_eq (E : FnA) (n n0 : Nat) (a0 a1 : AV) (bx : Bx) : evK Try.prog md0 E 15 kp_ptrs_At n n0 c_ptrs_At ⟨[(0, a0), (1, a1)], bx⟩ (fun s => some (.normal, s)) (fun i s => some (.exit i, s)) = F_ptrs_At E n n0 a0 a1 bx := by kernel_rfl

theorem E_ptrs_At (n : Nat) (a0 a1 : AV) (bx : Bx) : evFn cx0 ext0 (n + 1) 15 [a0, a1] bx = fin Try.prog [.tmp 4, .tmp 5] (F_ptrs_At (evFn cx0 ext0 n) n bx.length a0 a1 bx) := by
  rw [evFn_eq2 (cx := cx0) (c := c_ptrs_At) rfl Try.func15 c_ptrs_At_eq (of_decide_eq_true (by kernel_rfl)) d_ptrs_At (of_decide_eq_true (by kernel_rfl))]
  exact congrArg (fin Try.prog [.tmp 4, .tmp 5]) (F_ptrs_At_eq (evFn cx0 ext0 n) n bx.length a0 a1 bx)

/-- scupper/ptrs.may -/
def kp_ptrs_may : Option (List Nat) := some [0, 2]
noncomputable def c_ptrs_may : Code := Try.f22.body.getD .skip
noncomputable def F_ptrs_may (_E : FnA) (_n _n0 : Nat) (a0 : AV) (bx : Bx) : Option (Ex × S) :=
  (pv bx (binA Try.prog .geq 3 a0 (.v (Go.Value.int Go.IntKind.i64 0)))).bind fun r1 =>
  (gsel true r1.2 (some (a0, r1.2)) r1.1).bind fun r2 =>
  (gsel true r2.2 (pv r2.2 (binA Try.prog .lss 3 r2.1 (.v (Go.Value.int Go.IntKind.i64 27)))) r1.1).bind fun r3 =>
  (pv r3.2 (pickA r1.1 r3.1 (.v (Go.Value.bool false)))).bind fun r4 =>
  some (.ret, ⟨[(2, r4.1), (2, (.v (Go.Value.bool false))), (0, a0)], r4.2⟩)
theorem c_ptrs_may_eq : Try.f22.body = some c_ptrs_may := by kernel_rfl
theorem d_ptrs_may : drawsOk Try.prog md0 c_ptrs_may = true := by kernel_rfl
theorem F_ptrs_may_eq (E : FnA) (n n0 : Nat) (a0 : AV) (bx : Bx) : evK Try.prog md0 E 9 kp_ptrs_may n n0 c_ptrs_may ⟨[(0, a0)], bx⟩ (fun s => some (.normal, s)) (fun i s => some (.exit i, s)) = F_ptrs_may E n n0 a0 bx := by kernel_rfl

theorem E_ptrs_may (n : Nat) (a0 : AV) (bx : Bx) : evFn cx0 ext0 (n + 1) 22 [a0] bx = fin Try.prog [.tmp 2] (F_ptrs_may (evFn cx0 ext0 n) n bx.length a0 bx) := by
  rw [evFn_eq2 (cx := cx0) (c := c_ptrs_may) rfl Try.func22 c_ptrs_may_eq (of_decide_eq_true (by kernel_rfl)) d_ptrs_may (of_decide_eq_true (by kernel_rfl))]
  exact congrArg (fin Try.prog [.tmp 2]) (F_ptrs_may_eq (evFn cx0 ext0 n) n bx.length a0 bx)

/-- scupper/num.Get16 -/
def kp_num_Get16 : Option (List Nat) := some [0, 1, 4, 5, 6, 7]
noncomputable def c_num_Get16 : Code := Try.f23.body.getD .skip
noncomputable def F_num_Get16 (E : FnA) (_n _n0 : Nat) (a0 a1 : AV) (bx : Bx) : Option (Ex × S) :=
  (callA E md0 bx 28 [a0, a1, (.v (Go.Value.int Go.IntKind.i64 2))]).bind fun r1 =>
  (pv r1.2 (tupA r1.1 0)).bind fun r2 =>
  (pv r2.2 (tupA r1.1 1)).bind fun r3 =>
  (convA Try.prog r3.2 58 41 r2.1).bind fun r4 =>
  some (.ret, ⟨[(5, r3.1), (4, r4.1), (7, r3.1), (6, r2.1), (5, (.v (Go.Value.int Go.IntKind.i64 0))), (4, (.v (Go.Value.int Go.IntKind.u16 0))), (0, a0), (1, a1)], r4.2⟩)
theorem c_num_Get16_eq : Try.f23.body = some c_num_Get16 := by kernel_rfl
theorem d_num_Get16 : drawsOk Try.prog md0 c_num_Get16 = true := by kernel_rfl
theorem F_num_Get16_eq (E : FnA) (n n0 : Nat) (a0 a1 : AV) (bx : Bx) : evK Try.prog md0 E 17 kp_num_Get16 n n0 c_num_Get16 ⟨[(0, a0), (1, a1)], bx⟩ (fun s => some (.normal, s)) (fun i s => some (.exit i, s)) = F_num_Get16 E n n0 a0 a1 bx := by kernel_rfl

theorem E_num_Get16 (n : Nat) (a0 a1 : AV) (bx : Bx) : evFn cx0 ext0 (n + 1) 23 [a0, a1] bx = fin Try.prog [.tmp 4, .tmp 5] (F_num_Get16 (evFn cx0 ext0 n) n bx.length a0 a1 bx) := by
  rw [evFn_eq2 (cx := cx0) (c := c_num_Get16) rfl Try.func23 c_num_Get16_eq (of_decide_eq_true (by kernel_rfl)) d_num_Get16 (of_decide_eq_true (by kernel_rfl))]
  exact congrArg (fin Try.prog [.tmp 4, .tmp 5]) (F_num_Get16_eq (evFn cx0 ext0 n) n bx.length a0 a1 bx)

/-- scupper/num.get -/
def kp_num_get : Option (List Nat) := some [0, 1, 2, 6, 7, 8, 9, 25, 26, 27, 28]
noncomputable def c_num_get : Code := Try.f28.body.getD .skip
noncomputable def L_num_get_0 (_E : FnA) (_n _n0 : Nat) (s : S) : Option (Ex × S) :=
  (pv s.bx (binA Try.prog .lss 3 (get s.env 27) (get s.env 26))).bind fun r23 =>
  condA r23.1 ((pv r23.2 (binA Try.prog .add 3 (get (prune kp_num_get (prune kp_num_get s.env)) 1) (get (prune kp_num_get s.env) 27))).bind fun r24 =>
  (pv r24.2 (indexAddrA Try.prog 52 (get (prune kp_num_get (prune kp_num_get s.env)) 0) r24.1)).bind fun r25 =>
  (pv r25.2 (loadA Try.prog 5 r25.2 r25.1)).bind fun r26 =>
  (convA Try.prog r26.2 5 58 r26.1).bind fun r27 =>
  (pv r27.2 (binA Try.prog .mul 3 (.v (Go.Value.int Go.IntKind.i64 8)) (get (prune kp_num_get s.env) 27))).bind fun r28 =>
  (pv r28.2 (binA Try.prog .shl 58 r27.1 r28.1)).bind fun r29 =>
  (pv r29.2 (binA Try.prog .or 58 (get (prune kp_num_get (prune kp_num_get s.env)) 8) r29.1)).bind fun r30 =>
  (pv r30.2 (binA Try.prog .add 3 (get (prune kp_num_get (prune kp_num_get (prune kp_num_get s.env))) 27) (.v (Go.Value.int Go.IntKind.i64 1)))).bind fun r31 =>
  some (.normal, ⟨((27, r31.1) :: (8, r30.1) :: (9, (get (prune kp_num_get s.env) 27)) :: (28, r23.1) :: (prune kp_num_get (prune kp_num_get (prune kp_num_get (prune kp_num_get s.env))))), r31.2⟩)) (some (.exit 0, ⟨((28, r23.1) :: (prune kp_num_get s.env)), r23.2⟩))
noncomputable def B_num_get_0 (_E : FnA) (_n _n0 : Nat) (x27 x26 x8 x25 x7 x6 x0 x1 x2 : AV) (y : Bx) : Option (Ex × S) :=
  (pv y (binA Try.prog .lss 3 x27 x26)).bind fun r14 =>
  condA r14.1 ((pv r14.2 (binA Try.prog .add 3 x1 x27)).bind fun r15 =>
  (pv r15.2 (indexAddrA Try.prog 52 x0 r15.1)).bind fun r16 =>
  (pv r16.2 (loadA Try.prog 5 r16.2 r16.1)).bind fun r17 =>
  (convA Try.prog r17.2 5 58 r17.1).bind fun r18 =>
  (pv r18.2 (binA Try.prog .mul 3 (.v (Go.Value.int Go.IntKind.i64 8)) x27)).bind fun r19 =>
  (pv r19.2 (binA Try.prog .shl 58 r18.1 r19.1)).bind fun r20 =>
  (pv r20.2 (binA Try.prog .or 58 x8 r20.1)).bind fun r21 =>
  (pv r21.2 (binA Try.prog .add 3 x27 (.v (Go.Value.int Go.IntKind.i64 1)))).bind fun r22 =>
  some (.normal, ⟨[(27, r22.1), (8, r21.1), (9, x27), (28, r14.1), (27, x27), (26, x26), (8, x8), (25, x25), (7, x7), (6, x6), (0, x0), (1, x1), (2, x2)], r22.2⟩)) (some (.exit 0, ⟨[(28, r14.1), (27, x27), (26, x26), (8, x8), (25, x25), (7, x7), (6, x6), (0, x0), (1, x1), (2, x2)], r14.2⟩))
theorem L_num_get_0_lit {E : FnA} {n n0 : Nat} {x27 x26 x8 x25 x7 x6 x0 x1 x2 : AV} {y : Bx} {Q : Ex → S → Prop} (h : Ends (B_num_get_0 E n n0 x27 x26 x8 x25 x7 x6 x0 x1 x2 y) Q) : Ends (L_num_get_0 E n n0 ⟨[(27, x27), (26, x26), (8, x8), (25, x25), (7, x7), (6, x6), (0, x0), (1, x1), (2, x2)], y⟩) Q := by
  rw [show L_num_get_0 E n n0 ⟨[(27, x27), (26, x26), (8, x8), (25, x25), (7, x7), (6, x6), (0, x0), (1, x1), (2, x2)], y⟩ = B_num_get_0 E n n0 x27 x26 x8 x25 x7 x6 x0 x1 x2 y by kernel_rfl]
  exact h
noncomputable def K_num_get_0 (_E : FnA) (_n _n0 : Nat) (t : S) : Option (Ex × S) :=
  some (.ret, ⟨((7, (.v (Go.Value.int Go.IntKind.i64 0))) :: (6, (get t.env 8)) :: (prune kp_num_get t.env)), t.bx⟩)
noncomputable def X_num_get_0 (_E : FnA) (_n _n0 : Nat) (i : Nat) (t : S) : Option (Ex × S) :=
  if i = 0 then some (.ret, ⟨((7, (.v (Go.Value.int Go.IntKind.i64 0))) :: (6, (get t.env 8)) :: (prune kp_num_get t.env)), t.bx⟩) else some (.exit i, ⟨t.env, t.bx⟩)
noncomputable def X_num_get_0_0 (_E : FnA) (_n _n0 : Nat) (x28 x27 x26 x8 x25 x7 x6 x0 x1 x2 : AV) (y : Bx) : Option (Ex × S) :=
  some (.ret, ⟨[(7, (.v (Go.Value.int Go.IntKind.i64 0))), (6, x8), (28, x28), (27, x27), (26, x26), (8, x8), (25, x25), (7, x7), (6, x6), (0, x0), (1, x1), (2, x2)], y⟩)
theorem X_num_get_0_0_lit {E : FnA} {n n0 : Nat} {x28 x27 x26 x8 x25 x7 x6 x0 x1 x2 : AV} {y : Bx} {Q : Ex → S → Prop} (h : Ends (X_num_get_0_0 E n n0 x28 x27 x26 x8 x25 x7 x6 x0 x1 x2 y) Q) : Ends (X_num_get_0 E n n0 0 ⟨[(28, x28), (27, x27), (26, x26), (8, x8), (25, x25), (7, x7), (6, x6), (0, x0), (1, x1), (2, x2)], y⟩) Q := by
  rw [show X_num_get_0 E n n0 0 ⟨[(28, x28), (27, x27), (26, x26), (8, x8), (25, x25), (7, x7), (6, x6), (0, x0), (1, x1), (2, x2)], y⟩ = X_num_get_0_0 E n n0 x28 x27 x26 x8 x25 x7 x6 x0 x1 x2 y by kernel_rfl]
  exact h
noncomputable def F_num_get (E : FnA) (n n0 : Nat) (a0 a1 a2 : AV) (bx : Bx) : Option (Ex × S) :=
  (pv bx (binA Try.prog .lss 3 a1 (.v (Go.Value.int Go.IntKind.i64 0)))).bind fun r1 =>
  (gsel false r1.2 (some (a1, r1.2)) r1.1).bind fun r2 =>
  (gsel false r2.2 (some (a0, r2.2)) r1.1).bind fun r3 =>
  (gsel false r3.2 (pv r3.2 (lenA Try.prog 52 r3.1)) r1.1).bind fun r4 =>
  (gsel false r4.2 (pv r4.2 (binA Try.prog .gtr 3 r2.1 r4.1)) r1.1).bind fun r5 =>
  (pv r5.2 (pickA r1.1 (.v (Go.Value.bool true)) r5.1)).bind fun r6 =>
  (gsel false r6.2 (some (a0, r6.2)) r6.1).bind fun r7 =>
  (gsel false r7.2 (pv r7.2 (lenA Try.prog 52 r7.1)) r6.1).bind fun r8 =>
  (gsel false r8.2 (some (a1, r8.2)) r6.1).bind fun r9 =>
  (gsel false r9.2 (pv r9.2 (binA Try.prog .sub 3 r8.1 r9.1)) r6.1).bind fun r10 =>
  (gsel false r10.2 (some (a2, r10.2)) r6.1).bind fun r11 =>
  (gsel false r11.2 (pv r11.2 (binA Try.prog .lss 3 r10.1 r11.1)) r6.1).bind fun r12 =>
  (pv r12.2 (pickA r6.1 (.v (Go.Value.bool true)) r12.1)).bind fun r13 =>
  condA r13.1 (some (.ret, ⟨[(7, (.v (Go.Value.int Go.IntKind.i64 7))), (6, (.v (Go.Value.int Go.IntKind.u32 0))), (25, r13.1), (7, (.v (Go.Value.int Go.IntKind.i64 0))), (6, (.v (Go.Value.int Go.IntKind.u32 0))), (0, a0), (1, a1), (2, a2)], r13.2⟩)) (exitA (iter ⟨[(27, (.v (Go.Value.int Go.IntKind.i64 0))), (26, a2), (8, (.v (Go.Value.int Go.IntKind.u32 0))), (25, r13.1), (7, (.v (Go.Value.int Go.IntKind.i64 0))), (6, (.v (Go.Value.int Go.IntKind.u32 0))), (0, a0), (1, a1), (2, a2)], r13.2⟩ (L_num_get_0 E n n0) n ⟨[(27, (.v (Go.Value.int Go.IntKind.i64 0))), (26, a2), (8, (.v (Go.Value.int Go.IntKind.u32 0))), (25, r13.1), (7, (.v (Go.Value.int Go.IntKind.i64 0))), (6, (.v (Go.Value.int Go.IntKind.u32 0))), (0, a0), (1, a1), (2, a2)], r13.2⟩) (K_num_get_0 E n n0) (X_num_get_0 E n n0))
theorem c_num_get_eq : Try.f28.body = some c_num_get := by kernel_rfl
theorem d_num_get : drawsOk Try.prog md0 c_num_get = true := by kernel_rfl
theorem F_num_get_eq (E : FnA) (n n0 : Nat) (a0 a1 a2 : AV) (bx : Bx) : evK Try.prog md0 E 44 kp_num_get n n0 c_num_get ⟨[(0, a0), (1, a1), (2, a2)], bx⟩ (fun s => some (.normal, s)) (fun i s => some (.exit i, s)) = F_num_get E n n0 a0 a1 a2 bx := by kernel_rfl

theorem E_num_get (n : Nat) (a0 a1 a2 : AV) (bx : Bx) : evFn cx0 ext0 (n + 1) 28 [a0, a1, a2] bx = fin Try.prog [.tmp 6, .tmp 7] (F_num_get (evFn cx0 ext0 n) n bx.length a0 a1 a2 bx) := by
  rw [evFn_eq2 (cx := cx0) (c := c_num_get) rfl Try.func28 c_num_get_eq (of_decide_eq_true (by kernel_rfl)) d_num_get (of_decide_eq_true (by kernel_rfl))]
  exact congrArg (fin Try.prog [.tmp 6, .tmp 7]) (F_num_get_eq (evFn cx0 ext0 n) n bx.length a0 a1 a2 bx)

/-- scupper/scupperref01.number -/
def kp_r01_number : Option (List Nat) := some [0, 1, 2, 6, 7, 8, 9, 25, 29]
noncomputable def c_r01_number : Code := Try.f29.body.getD .skip
noncomputable def L_r01_number_0 (_E : FnA) (_n _n0 : Nat) (s : S) : Option (Ex × S) :=
  (pv s.bx (binA Try.prog .geq 3 (get s.env 9) (.v (Go.Value.int Go.IntKind.i64 0)))).bind fun r23 =>
  condA r23.1 ((pv r23.2 (binA Try.prog .mul 50 (.v (Go.Value.int Go.IntKind.u64 256)) (get (prune kp_r01_number s.env) 8))).bind fun r24 =>
  (pv r24.2 (binA Try.prog .add 3 (get (prune kp_r01_number s.env) 1) (get (prune kp_r01_number s.env) 9))).bind fun r25 =>
  (pv r25.2 (indexAddrA Try.prog 52 (get (prune kp_r01_number s.env) 0) r25.1)).bind fun r26 =>
  (pv r26.2 (loadA Try.prog 5 r26.2 r26.1)).bind fun r27 =>
  (convA Try.prog r27.2 5 50 r27.1).bind fun r28 =>
  (pv r28.2 (binA Try.prog .add 50 r24.1 r28.1)).bind fun r29 =>
  (pv r29.2 (binA Try.prog .sub 3 (get (prune kp_r01_number (prune kp_r01_number s.env)) 9) (.v (Go.Value.int Go.IntKind.i64 1)))).bind fun r30 =>
  some (.normal, ⟨((9, r30.1) :: (8, r29.1) :: (29, r23.1) :: (prune kp_r01_number (prune kp_r01_number (prune kp_r01_number s.env)))), r30.2⟩)) (some (.exit 0, ⟨((29, r23.1) :: (prune kp_r01_number s.env)), r23.2⟩))
noncomputable def B_r01_number_0 (_E : FnA) (_n _n0 : Nat) (x9 x8 x25 x7 x6 x0 x1 x2 : AV) (y : Bx) : Option (Ex × S) :=
  (pv y (binA Try.prog .geq 3 x9 (.v (Go.Value.int Go.IntKind.i64 0)))).bind fun r15 =>
  condA r15.1 ((pv r15.2 (binA Try.prog .mul 50 (.v (Go.Value.int Go.IntKind.u64 256)) x8)).bind fun r16 =>
  (pv r16.2 (binA Try.prog .add 3 x1 x9)).bind fun r17 =>
  (pv r17.2 (indexAddrA Try.prog 52 x0 r17.1)).bind fun r18 =>
  (pv r18.2 (loadA Try.prog 5 r18.2 r18.1)).bind fun r19 =>
  (convA Try.prog r19.2 5 50 r19.1).bind fun r20 =>
  (pv r20.2 (binA Try.prog .add 50 r16.1 r20.1)).bind fun r21 =>
  (pv r21.2 (binA Try.prog .sub 3 x9 (.v (Go.Value.int Go.IntKind.i64 1)))).bind fun r22 =>
  some (.normal, ⟨[(9, r22.1), (8, r21.1), (29, r15.1), (9, x9), (8, x8), (25, x25), (7, x7), (6, x6), (0, x0), (1, x1), (2, x2)], r22.2⟩)) (some (.exit 0, ⟨[(29, r15.1), (9, x9), (8, x8), (25, x25), (7, x7), (6, x6), (0, x0), (1, x1), (2, x2)], r15.2⟩))
theorem L_r01_number_0_lit {E : FnA} {n n0 : Nat} {x9 x8 x25 x7 x6 x0 x1 x2 : AV} {y : Bx} {Q : Ex → S → Prop} (h : Ends (B_r01_number_0 E n n0 x9 x8 x25 x7 x6 x0 x1 x2 y) Q) : Ends (L_r01_number_0 E n n0 ⟨[(9, x9), (8, x8), (25, x25), (7, x7), (6, x6), (0, x0), (1, x1), (2, x2)], y⟩) Q := by
  rw [show L_r01_number_0 E n n0 ⟨[(9, x9), (8, x8), (25, x25), (7, x7), (6, x6), (0, x0), (1, x1), (2, x2)], y⟩ = B_r01_number_0 E n n0 x9 x8 x25 x7 x6 x0 x1 x2 y by kernel_rfl]
  exact h
noncomputable def K_r01_number_0 (_E : FnA) (_n _n0 : Nat) (t : S) : Option (Ex × S) :=
  some (.ret, ⟨((7, (.v (Go.Value.int Go.IntKind.i64 0))) :: (6, (get t.env 8)) :: (prune kp_r01_number t.env)), t.bx⟩)
noncomputable def X_r01_number_0 (_E : FnA) (_n _n0 : Nat) (i : Nat) (t : S) : Option (Ex × S) :=
  if i = 0 then some (.ret, ⟨((7, (.v (Go.Value.int Go.IntKind.i64 0))) :: (6, (get t.env 8)) :: (prune kp_r01_number t.env)), t.bx⟩) else some (.exit i, ⟨t.env, t.bx⟩)
noncomputable def X_r01_number_0_0 (_E : FnA) (_n _n0 : Nat) (x29 x9 x8 x25 x7 x6 x0 x1 x2 : AV) (y : Bx) : Option (Ex × S) :=
  some (.ret, ⟨[(7, (.v (Go.Value.int Go.IntKind.i64 0))), (6, x8), (29, x29), (9, x9), (8, x8), (25, x25), (7, x7), (6, x6), (0, x0), (1, x1), (2, x2)], y⟩)
theorem X_r01_number_0_0_lit {E : FnA} {n n0 : Nat} {x29 x9 x8 x25 x7 x6 x0 x1 x2 : AV} {y : Bx} {Q : Ex → S → Prop} (h : Ends (X_r01_number_0_0 E n n0 x29 x9 x8 x25 x7 x6 x0 x1 x2 y) Q) : Ends (X_r01_number_0 E n n0 0 ⟨[(29, x29), (9, x9), (8, x8), (25, x25), (7, x7), (6, x6), (0, x0), (1, x1), (2, x2)], y⟩) Q := by
  rw [show X_r01_number_0 E n n0 0 ⟨[(29, x29), (9, x9), (8, x8), (25, x25), (7, x7), (6, x6), (0, x0), (1, x1), (2, x2)], y⟩ = X_r01_number_0_0 E n n0 x29 x9 x8 x25 x7 x6 x0 x1 x2 y by kernel_rfl]
  exact h
noncomputable def F_r01_number (E : FnA) (n n0 : Nat) (a0 a1 a2 : AV) (bx : Bx) : Option (Ex × S) :=
  (pv bx (binA Try.prog .lss 3 a1 (.v (Go.Value.int Go.IntKind.i64 0)))).bind fun r1 =>
  (gsel false r1.2 (some (a1, r1.2)) r1.1).bind fun r2 =>
  (gsel false r2.2 (some (a0, r2.2)) r1.1).bind fun r3 =>
  (gsel false r3.2 (pv r3.2 (lenA Try.prog 52 r3.1)) r1.1).bind fun r4 =>
  (gsel false r4.2 (pv r4.2 (binA Try.prog .gtr 3 r2.1 r4.1)) r1.1).bind fun r5 =>
  (pv r5.2 (pickA r1.1 (.v (Go.Value.bool true)) r5.1)).bind fun r6 =>
  (gsel false r6.2 (some (a0, r6.2)) r6.1).bind fun r7 =>
  (gsel false r7.2 (pv r7.2 (lenA Try.prog 52 r7.1)) r6.1).bind fun r8 =>
  (gsel false r8.2 (some (a1, r8.2)) r6.1).bind fun r9 =>
  (gsel false r9.2 (pv r9.2 (binA Try.prog .sub 3 r8.1 r9.1)) r6.1).bind fun r10 =>
  (gsel false r10.2 (some (a2, r10.2)) r6.1).bind fun r11 =>
  (gsel false r11.2 (pv r11.2 (binA Try.prog .lss 3 r10.1 r11.1)) r6.1).bind fun r12 =>
  (pv r12.2 (pickA r6.1 (.v (Go.Value.bool true)) r12.1)).bind fun r13 =>
  condA r13.1 (some (.ret, ⟨[(7, (.v (Go.Value.int Go.IntKind.i64 7))), (6, (.v (Go.Value.int Go.IntKind.u64 0))), (25, r13.1), (7, (.v (Go.Value.int Go.IntKind.i64 0))), (6, (.v (Go.Value.int Go.IntKind.u64 0))), (0, a0), (1, a1), (2, a2)], r13.2⟩)) ((pv r13.2 (binA Try.prog .sub 3 a2 (.v (Go.Value.int Go.IntKind.i64 1)))).bind fun r14 =>
  exitA (iter ⟨[(9, r14.1), (8, (.v (Go.Value.int Go.IntKind.u64 0))), (25, r13.1), (7, (.v (Go.Value.int Go.IntKind.i64 0))), (6, (.v (Go.Value.int Go.IntKind.u64 0))), (0, a0), (1, a1), (2, a2)], r14.2⟩ (L_r01_number_0 E n n0) n ⟨[(9, r14.1), (8, (.v (Go.Value.int Go.IntKind.u64 0))), (25, r13.1), (7, (.v (Go.Value.int Go.IntKind.i64 0))), (6, (.v (Go.Value.int Go.IntKind.u64 0))), (0, a0), (1, a1), (2, a2)], r14.2⟩) (K_r01_number_0 E n n0) (X_r01_number_0 E n n0))
theorem c_r01_number_eq : Try.f29.body = some c_r01_number := by kernel_rfl
theorem d_r01_number : drawsOk Try.prog md0 c_r01_number = true := by kernel_rfl
theorem F_r01_number_eq (E : FnA) (n n0 : Nat) (a0 a1 a2 : AV) (bx : Bx) : evK Try.prog md0 E 43 kp_r01_number n n0 c_r01_number ⟨[(0, a0), (1, a1), (2, a2)], bx⟩ (fun s => some (.normal, s)) (fun i s => some (.exit i, s)) = F_r01_number E n n0 a0 a1 a2 bx := by kernel_rfl

theorem E_r01_number (n : Nat) (a0 a1 a2 : AV) (bx : Bx) : evFn cx0 ext0 (n + 1) 29 [a0, a1, a2] bx = fin Try.prog [.tmp 6, .tmp 7] (F_r01_number (evFn cx0 ext0 n) n bx.length a0 a1 a2 bx) := by
  rw [evFn_eq2 (cx := cx0) (c := c_r01_number) rfl Try.func29 c_r01_number_eq (of_decide_eq_true (by kernel_rfl)) d_r01_number (of_decide_eq_true (by kernel_rfl))]
  exact congrArg (fin Try.prog [.tmp 6, .tmp 7]) (F_r01_number_eq (evFn cx0 ext0 n) n bx.length a0 a1 a2 bx)

/-- scupper/scupperref01.Get16 -/
def kp_r01_Get16 : Option (List Nat) := some [0, 1, 4, 5, 6, 7]
noncomputable def c_r01_Get16 : Code := Try.f24.body.getD .skip
noncomputable def F_r01_Get16 (E : FnA) (_n _n0 : Nat) (a0 a1 : AV) (bx : Bx) : Option (Ex × S) :=
  (callA E md0 bx 29 [a0, a1, (.v (Go.Value.int Go.IntKind.i64 2))]).bind fun r1 =>
  (pv r1.2 (tupA r1.1 0)).bind fun r2 =>
  (pv r2.2 (tupA r1.1 1)).bind fun r3 =>
  (convA Try.prog r3.2 50 41 r2.1).bind fun r4 =>
  some (.ret, ⟨[(5, r3.1), (4, r4.1), (7, r3.1), (6, r2.1), (5, (.v (Go.Value.int Go.IntKind.i64 0))), (4, (.v (Go.Value.int Go.IntKind.u16 0))), (0, a0), (1, a1)], r4.2⟩)
theorem c_r01_Get16_eq : Try.f24.body = some c_r01_Get16 := by kernel_rfl
theorem d_r01_Get16 : drawsOk Try.prog md0 c_r01_Get16 = true := by kernel_rfl
theorem F_r01_Get16_eq (E : FnA) (n n0 : Nat) (a0 a1 : AV) (bx : Bx) : evK Try.prog md0 E 17 kp_r01_Get16 n n0 c_r01_Get16 ⟨[(0, a0), (1, a1)], bx⟩ (fun s => some (.normal, s)) (fun i s => some (.exit i, s)) = F_r01_Get16 E n n0 a0 a1 bx := by kernel_rfl

theorem E_r01_Get16 (n : Nat) (a0 a1 : AV) (bx : Bx) : evFn cx0 ext0 (n + 1) 24 [a0, a1] bx = fin Try.prog [.tmp 4, .tmp 5] (F_r01_Get16 (evFn cx0 ext0 n) n bx.length a0 a1 bx) := by
  rw [evFn_eq2 (cx := cx0) (c := c_r01_Get16) rfl Try.func24 c_r01_Get16_eq (of_decide_eq_true (by kernel_rfl)) d_r01_Get16 (of_decide_eq_true (by kernel_rfl))]
  exact congrArg (fin Try.prog [.tmp 4, .tmp 5]) (F_r01_Get16_eq (evFn cx0 ext0 n) n bx.length a0 a1 bx)

/-- scupper/num.Put16 -/
def kp_num_Put16 : Option (List Nat) := some [0, 2]
noncomputable def c_num_Put16 : Code := Try.f25.body.getD .skip
noncomputable def F_num_Put16 (_E : FnA) (_n _n0 : Nat) (a0 : AV) (bx : Bx) : Option (Ex × S) :=
  (allocA Try.prog bx 53).bind fun r1 =>
  (convA Try.prog r1.2 41 5 a0).bind fun r2 =>
  (pv r2.2 (binA Try.prog .shr 41 a0 (.v (Go.Value.int Go.IntKind.u64 8)))).bind fun r3 =>
  (convA Try.prog r3.2 41 5 r3.1).bind fun r4 =>
  (pv r4.2 (buildA Try.prog 53 [(0, r2.1), (1, r4.1)])).bind fun r5 =>
  (stA Try.prog 53 r5.2 r1.1 r5.1).bind fun r6 =>
  some (.ret, ⟨[(2, r1.1), (0, a0)], r6.2⟩)
theorem c_num_Put16_eq : Try.f25.body = some c_num_Put16 := by kernel_rfl
theorem d_num_Put16 : drawsOk Try.prog md0 c_num_Put16 = true := by kernel_rfl
theorem F_num_Put16_eq (E : FnA) (n n0 : Nat) (a0 : AV) (bx : Bx) : evK Try.prog md0 E 9 kp_num_Put16 n n0 c_num_Put16 ⟨[(0, a0)], bx⟩ (fun s => some (.normal, s)) (fun i s => some (.exit i, s)) = F_num_Put16 E n n0 a0 bx := by kernel_rfl

theorem E_num_Put16 (n : Nat) (a0 : AV) (bx : Bx) : evFn cx0 ext0 (n + 1) 25 [a0] bx = fin Try.prog [.cell 2 53] (F_num_Put16 (evFn cx0 ext0 n) n bx.length a0 bx) := by
  rw [evFn_eq2 (cx := cx0) (c := c_num_Put16) rfl Try.func25 c_num_Put16_eq (of_decide_eq_true (by kernel_rfl)) d_num_Put16 (of_decide_eq_true (by kernel_rfl))]
  exact congrArg (fin Try.prog [.cell 2 53]) (F_num_Put16_eq (evFn cx0 ext0 n) n bx.length a0 bx)

/-- scupper/scupperref01.Put16 -/
def kp_r01_Put16 : Option (List Nat) := some [0, 2]
noncomputable def c_r01_Put16 : Code := Try.f26.body.getD .skip
noncomputable def F_r01_Put16 (_E : FnA) (_n _n0 : Nat) (a0 : AV) (bx : Bx) : Option (Ex × S) :=
  (some (AV.bsl (List.length bx) 0 0 0, bx ++ [[]])).bind fun r1 =>
  (pv r1.2 (binA Try.prog .rem 41 a0 (.v (Go.Value.int Go.IntKind.u16 256)))).bind fun r2 =>
  (convA Try.prog r2.2 41 5 r2.1).bind fun r3 =>
  (pv r3.2 (binA Try.prog .quo 41 a0 (.v (Go.Value.int Go.IntKind.u16 256)))).bind fun r4 =>
  (convA Try.prog r4.2 41 5 r4.1).bind fun r5 =>
  (buildSliceA Try.prog r5.2 52 2 [(0, r3.1), (1, r5.1)]).bind fun r6 =>
  some (.ret, ⟨[(2, r6.1), (2, r1.1), (0, a0)], r6.2⟩)
theorem c_r01_Put16_eq : Try.f26.body = some c_r01_Put16 := by kernel_rfl
theorem d_r01_Put16 : drawsOk Try.prog md0 c_r01_Put16 = true := by kernel_rfl
theorem F_r01_Put16_eq (E : FnA) (n n0 : Nat) (a0 : AV) (bx : Bx) : evK Try.prog md0 E 10 kp_r01_Put16 n n0 c_r01_Put16 ⟨[(0, a0)], bx⟩ (fun s => some (.normal, s)) (fun i s => some (.exit i, s)) = F_r01_Put16 E n n0 a0 bx := by kernel_rfl

theorem E_r01_Put16 (n : Nat) (a0 : AV) (bx : Bx) : evFn cx0 ext0 (n + 1) 26 [a0] bx = fin Try.prog [.tmp 2] (F_r01_Put16 (evFn cx0 ext0 n) n bx.length a0 bx) := by
  rw [evFn_eq2 (cx := cx0) (c := c_r01_Put16) rfl Try.func26 c_r01_Put16_eq (of_decide_eq_true (by kernel_rfl)) d_r01_Put16 (of_decide_eq_true (by kernel_rfl))]
  exact congrArg (fin Try.prog [.tmp 2]) (F_r01_Put16_eq (evFn cx0 ext0 n) n bx.length a0 bx)

/-- scupper/scupperbase.Among -/
def kp_base_Among : Option (List Nat) := some [0, 1, 4, 6]
noncomputable def c_base_Among : Code := Try.f14.body.getD .skip
noncomputable def F_base_Among (_E : FnA) (_n _n0 : Nat) (a0 a1 : AV) (bx : Bx) : Option (Ex × S) :=
  (pv bx (binA Try.prog .lss 3 a1 (.v (Go.Value.int Go.IntKind.i64 1)))).bind fun r1 =>
  condA r1.1 (some (.ret, ⟨[(4, (.v (Go.Value.int Go.IntKind.i64 0))), (6, r1.1), (4, (.v (Go.Value.int Go.IntKind.i64 0))), (0, a0), (1, a1)], r1.2⟩)) ((convA Try.prog r1.2 3 50 a0).bind fun r2 =>
  (convA Try.prog r2.2 3 50 a1).bind fun r3 =>
  (pv r3.2 (binA Try.prog .rem 50 r2.1 r3.1)).bind fun r4 =>
  (convA Try.prog r4.2 50 3 r4.1).bind fun r5 =>
  some (.ret, ⟨[(4, r5.1), (6, r1.1), (4, (.v (Go.Value.int Go.IntKind.i64 0))), (0, a0), (1, a1)], r5.2⟩))
theorem c_base_Among_eq : Try.f14.body = some c_base_Among := by kernel_rfl
theorem d_base_Among : drawsOk Try.prog md0 c_base_Among = true := by kernel_rfl
theorem F_base_Among_eq (E : FnA) (n n0 : Nat) (a0 a1 : AV) (bx : Bx) : evK Try.prog md0 E 13 kp_base_Among n n0 c_base_Among ⟨[(0, a0), (1, a1)], bx⟩ (fun s => some (.normal, s)) (fun i s => some (.exit i, s)) = F_base_Among E n n0 a0 a1 bx := by kernel_rfl

theorem E_base_Among (n : Nat) (a0 a1 : AV) (bx : Bx) : evFn cx0 ext0 (n + 1) 14 [a0, a1] bx = fin Try.prog [.tmp 4] (F_base_Among (evFn cx0 ext0 n) n bx.length a0 a1 bx) := by
  rw [evFn_eq2 (cx := cx0) (c := c_base_Among) rfl Try.func14 c_base_Among_eq (of_decide_eq_true (by kernel_rfl)) d_base_Among (of_decide_eq_true (by kernel_rfl))]
  exact congrArg (fin Try.prog [.tmp 4]) (F_base_Among_eq (evFn cx0 ext0 n) n bx.length a0 a1 bx)

end Go.Sy.Pre
