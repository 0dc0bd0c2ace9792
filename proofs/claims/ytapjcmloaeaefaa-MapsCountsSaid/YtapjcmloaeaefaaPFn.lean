/-
  What the functions under a hand-walked function read as, in the reader's words; no conditions.
-/
import Derived.Test.YtapjcmloaeaefaaSyStep
import Derived.Test.YtapjcmloaeaefaaPfMapS
import Derived.Test.YtapjcmloaeaefaaProg
import Derived.KernelRfl
namespace Go.Sy.Pre
open Go.Proofs
def kpT : FuncId → Option (List Nat)
  | 9 => some [0, 1, 2, 3, 6, 7, 8, 9, 17]
  | 12 => some [0, 1, 4, 6]
  | 13 => some [0, 1, 2, 3, 4, 8, 9, 10, 11, 12, 20]
  | 14 => some [0, 1, 4, 5, 6, 7]
  | 19 => some [0, 1, 2, 3, 6, 7, 8, 9, 17]
  | 20 => some [0, 1, 2, 3, 4, 8, 9, 10, 11, 12, 21]
  | 21 => some [0, 1, 4, 5, 6, 7, 15]
  | 26 => some [0, 1, 2, 4, 5, 9, 14]
  | 27 => some [0, 1, 2, 6, 7, 8, 16, 26]
  | 30 => some [0, 1, 4, 5, 6, 7, 8]
  | 31 => some [0, 1, 2, 4, 7, 9, 13]
  | 32 => some [0, 1, 2, 6, 7, 8, 9, 10, 11, 20, 31]
  | 33 => some [0, 2]
  | 34 => some [0, 1, 4, 5, 15, 26]
  | 35 => some [0, 1, 4, 5, 14]
  | 36 => some [0, 1, 2, 6, 7, 8, 9, 10, 18, 27, 43]
  | 38 => some [0, 1, 4, 5, 6, 9, 10, 11]
  | 40 => some [0, 1, 2, 3, 27]
  | 42 => some [0, 1, 2, 30]
  | 43 => some [0, 1, 4]
  | 44 => some [0, 1, 4, 5, 6, 15]
  | 45 => some [0, 2, 4]
  | 46 => some [0, 2, 3, 4, 7]
  | 47 => some [0, 1, 2, 6]
  | _ => none
def md_num_With : FuncId → Md
  | 45 => .boxed
  | _ => .frozen
def mdT : FuncId → FuncId → Md
  | 32 => md_num_With
  | _ => md0
noncomputable def cx0 : Cx := { P := Try.prog, md := mdT, kp := kpT }
noncomputable def ext0 : FnA := extC
theorem ext0_ok (f : FuncId) (args : List AV) (bx : Bx) (r : AV) (bx' : Bx) (h : ext0 f args bx = some (r, bx')) : Sound cx0.P f args bx r bx' := extC_ok f args bx r bx' h
/-- scupper/maps.Taken -/
def kp_maps_Taken : Option (List Nat) := some [0, 1, 2, 3, 6, 7, 8, 9, 17]
noncomputable def c_maps_Taken : Code := Try.f9.body.getD .skip
noncomputable def F_maps_Taken (E : FnA) (_n _n0 : Nat) (a0 a1 a2 : AV) (bx : Bx) : Option (Ex × S) :=
  (boxA bx a0).bind fun r1 =>
  (callA E md0 r1.2 29 [a1, a2]).bind fun r2 =>
  (pv r2.2 (tupA r2.1 0)).bind fun r3 =>
  (pv r3.2 (tupA r2.1 1)).bind fun r4 =>
  (pv r4.2 (binA Try.prog .neq 27 r4.1 (.v (Go.Value.int Go.IntKind.i64 0)))).bind fun r5 =>
  condA r5.1 (some (.ret, ⟨[(7, r4.1), (6, (.v (Go.Value.bool false))), (17, r5.1), (9, r4.1), (8, r3.1), (7, (.v (Go.Value.int Go.IntKind.i64 0))), (6, (.v (Go.Value.bool false))), (3, r1.1), (0, a0), (1, a1), (2, a2)], r5.2⟩)) ((pv r5.2 (sliceA Try.prog r5.2 23 r1.1 none none none)).bind fun r6 =>
  (callA E md0 r6.2 30 [r6.1, r3.1]).bind fun r7 =>
  (pv r7.2 (tupA r7.1 0)).bind fun r8 =>
  (pv r8.2 (tupA r7.1 1)).bind fun r9 =>
  some (.ret, ⟨[(7, r9.1), (6, r8.1), (17, r5.1), (9, r4.1), (8, r3.1), (7, (.v (Go.Value.int Go.IntKind.i64 0))), (6, (.v (Go.Value.bool false))), (3, r1.1), (0, a0), (1, a1), (2, a2)], r9.2⟩))
theorem c_maps_Taken_eq : Try.f9.body = some c_maps_Taken := by kernel_rfl
theorem d_maps_Taken : drawsOk Try.prog md0 c_maps_Taken = true := by kernel_rfl
theorem F_maps_Taken_eq (E : FnA) (n n0 : Nat) (a0 a1 a2 : AV) (bx : Bx) : evK Try.prog md0 E 24 kp_maps_Taken n n0 c_maps_Taken ⟨[(0, a0), (1, a1), (2, a2)], bx⟩ (fun s => some (.normal, s)) (fun i s => some (.exit i, s)) = F_maps_Taken E n n0 a0 a1 a2 bx := by kernel_rfl

theorem E_maps_Taken (n : Nat) (a0 a1 a2 : AV) (bx : Bx) : evFn cx0 ext0 (n + 1) 9 [a0, a1, a2] bx = fin Try.prog [.tmp 6, .tmp 7] (F_maps_Taken (evFn cx0 ext0 n) n bx.length a0 a1 a2 bx) := by
  rw [evFn_eq2 (cx := cx0) (c := c_maps_Taken) rfl Try.func9 c_maps_Taken_eq (of_decide_eq_true (by kernel_rfl)) d_maps_Taken (of_decide_eq_true (by kernel_rfl))]
  exact congrArg (fin Try.prog [.tmp 6, .tmp 7]) (F_maps_Taken_eq (evFn cx0 ext0 n) n bx.length a0 a1 a2 bx)

/-- scupper/scupperbase.Among -/
def kp_base_Among : Option (List Nat) := some [0, 1, 4, 6]
noncomputable def c_base_Among : Code := Try.f12.body.getD .skip
noncomputable def F_base_Among (_E : FnA) (_n _n0 : Nat) (a0 a1 : AV) (bx : Bx) : Option (Ex × S) :=
  (pv bx (binA Try.prog .lss 3 a1 (.v (Go.Value.int Go.IntKind.i64 1)))).bind fun r1 =>
  condA r1.1 (some (.ret, ⟨[(4, (.v (Go.Value.int Go.IntKind.i64 0))), (6, r1.1), (4, (.v (Go.Value.int Go.IntKind.i64 0))), (0, a0), (1, a1)], r1.2⟩)) ((convA Try.prog r1.2 3 50 a0).bind fun r2 =>
  (convA Try.prog r2.2 3 50 a1).bind fun r3 =>
  (pv r3.2 (binA Try.prog .rem 50 r2.1 r3.1)).bind fun r4 =>
  (convA Try.prog r4.2 50 3 r4.1).bind fun r5 =>
  some (.ret, ⟨[(4, r5.1), (6, r1.1), (4, (.v (Go.Value.int Go.IntKind.i64 0))), (0, a0), (1, a1)], r5.2⟩))
theorem c_base_Among_eq : Try.f12.body = some c_base_Among := by kernel_rfl
theorem d_base_Among : drawsOk Try.prog md0 c_base_Among = true := by kernel_rfl
theorem F_base_Among_eq (E : FnA) (n n0 : Nat) (a0 a1 : AV) (bx : Bx) : evK Try.prog md0 E 13 kp_base_Among n n0 c_base_Among ⟨[(0, a0), (1, a1)], bx⟩ (fun s => some (.normal, s)) (fun i s => some (.exit i, s)) = F_base_Among E n n0 a0 a1 bx := by kernel_rfl

theorem E_base_Among (n : Nat) (a0 a1 : AV) (bx : Bx) : evFn cx0 ext0 (n + 1) 12 [a0, a1] bx = fin Try.prog [.tmp 4] (F_base_Among (evFn cx0 ext0 n) n bx.length a0 a1 bx) := by
  rw [evFn_eq2 (cx := cx0) (c := c_base_Among) rfl Try.func12 c_base_Among_eq (of_decide_eq_true (by kernel_rfl)) d_base_Among (of_decide_eq_true (by kernel_rfl))]
  exact congrArg (fin Try.prog [.tmp 4]) (F_base_Among_eq (evFn cx0 ext0 n) n bx.length a0 a1 bx)

/-- scupper/maps.With -/
def kp_maps_With : Option (List Nat) := some [0, 1, 2, 3, 4, 8, 9, 10, 11, 12, 20]
noncomputable def c_maps_With : Code := Try.f13.body.getD .skip
noncomputable def F_maps_With (E : FnA) (_n _n0 : Nat) (a0 a1 a2 a3 : AV) (bx : Bx) : Option (Ex × S) :=
  (boxA bx a0).bind fun r1 =>
  (allocA Try.prog r1.2 23).bind fun r2 =>
  (callA E md0 r2.2 29 [a1, a2]).bind fun r3 =>
  (pv r3.2 (tupA r3.1 0)).bind fun r4 =>
  (pv r4.2 (tupA r3.1 1)).bind fun r5 =>
  (pv r5.2 (binA Try.prog .neq 27 r5.1 (.v (Go.Value.int Go.IntKind.i64 0)))).bind fun r6 =>
  condA r6.1 ((pv r6.2 (buildA Try.prog 23 [])).bind fun r7 =>
  (stA Try.prog 23 r7.2 r2.1 r7.1).bind fun r8 =>
  some (.ret, ⟨[(9, r5.1), (20, r6.1), (11, r5.1), (10, r4.1), (9, (.v (Go.Value.int Go.IntKind.i64 0))), (8, r2.1), (4, r1.1), (0, a0), (1, a1), (2, a2), (3, a3)], r8.2⟩)) ((pv r6.2 (sliceA Try.prog r6.2 23 r1.1 none none none)).bind fun r9 =>
  (callA E md0 r9.2 32 [r9.1, r4.1, a3]).bind fun r10 =>
  (pv r10.2 (tupA r10.1 0)).bind fun r11 =>
  (pv r11.2 (tupA r10.1 1)).bind fun r12 =>
  (pv r12.2 (arrPtrA Try.prog 23 r11.1)).bind fun r13 =>
  (pv r13.2 (loadA Try.prog 23 r13.2 r13.1)).bind fun r14 =>
  (stA Try.prog 23 r14.2 r2.1 r14.1).bind fun r15 =>
  some (.ret, ⟨[(9, r12.1), (11, r12.1), (12, r11.1), (20, r6.1), (11, r5.1), (10, r4.1), (9, (.v (Go.Value.int Go.IntKind.i64 0))), (8, r2.1), (4, r1.1), (0, a0), (1, a1), (2, a2), (3, a3)], r15.2⟩))
theorem c_maps_With_eq : Try.f13.body = some c_maps_With := by kernel_rfl
theorem d_maps_With : drawsOk Try.prog md0 c_maps_With = true := by kernel_rfl
theorem F_maps_With_eq (E : FnA) (n n0 : Nat) (a0 a1 a2 a3 : AV) (bx : Bx) : evK Try.prog md0 E 34 kp_maps_With n n0 c_maps_With ⟨[(0, a0), (1, a1), (2, a2), (3, a3)], bx⟩ (fun s => some (.normal, s)) (fun i s => some (.exit i, s)) = F_maps_With E n n0 a0 a1 a2 a3 bx := by kernel_rfl

theorem E_maps_With (n : Nat) (a0 a1 a2 a3 : AV) (bx : Bx) : evFn cx0 ext0 (n + 1) 13 [a0, a1, a2, a3] bx = fin Try.prog [.cell 8 23, .tmp 9] (F_maps_With (evFn cx0 ext0 n) n bx.length a0 a1 a2 a3 bx) := by
  rw [evFn_eq2 (cx := cx0) (c := c_maps_With) rfl Try.func13 c_maps_With_eq (of_decide_eq_true (by kernel_rfl)) d_maps_With (of_decide_eq_true (by kernel_rfl))]
  exact congrArg (fin Try.prog [.cell 8 23, .tmp 9]) (F_maps_With_eq (evFn cx0 ext0 n) n bx.length a0 a1 a2 a3 bx)

/-- scupper/maps.Byte -/
def kp_maps_Byte : Option (List Nat) := some [0, 1, 4, 5, 6, 7]
noncomputable def c_maps_Byte : Code := Try.f14.body.getD .skip
noncomputable def F_maps_Byte (E : FnA) (_n _n0 : Nat) (a0 a1 : AV) (bx : Bx) : Option (Ex × S) :=
  (callA E md0 bx 29 [a0, a1]).bind fun r1 =>
  (pv r1.2 (tupA r1.1 0)).bind fun r2 =>
  (pv r2.2 (tupA r1.1 1)).bind fun r3 =>
  (pv r3.2 (binA Try.prog .quo 3 r2.1 (.v (Go.Value.int Go.IntKind.i64 8)))).bind fun r4 =>
  some (.ret, ⟨[(5, r3.1), (4, r4.1), (7, r3.1), (6, r2.1), (5, (.v (Go.Value.int Go.IntKind.i64 0))), (4, (.v (Go.Value.int Go.IntKind.i64 0))), (0, a0), (1, a1)], r4.2⟩)
theorem c_maps_Byte_eq : Try.f14.body = some c_maps_Byte := by kernel_rfl
theorem d_maps_Byte : drawsOk Try.prog md0 c_maps_Byte = true := by kernel_rfl
theorem F_maps_Byte_eq (E : FnA) (n n0 : Nat) (a0 a1 : AV) (bx : Bx) : evK Try.prog md0 E 17 kp_maps_Byte n n0 c_maps_Byte ⟨[(0, a0), (1, a1)], bx⟩ (fun s => some (.normal, s)) (fun i s => some (.exit i, s)) = F_maps_Byte E n n0 a0 a1 bx := by kernel_rfl

theorem E_maps_Byte (n : Nat) (a0 a1 : AV) (bx : Bx) : evFn cx0 ext0 (n + 1) 14 [a0, a1] bx = fin Try.prog [.tmp 4, .tmp 5] (F_maps_Byte (evFn cx0 ext0 n) n bx.length a0 a1 bx) := by
  rw [evFn_eq2 (cx := cx0) (c := c_maps_Byte) rfl Try.func14 c_maps_Byte_eq (of_decide_eq_true (by kernel_rfl)) d_maps_Byte (of_decide_eq_true (by kernel_rfl))]
  exact congrArg (fin Try.prog [.tmp 4, .tmp 5]) (F_maps_Byte_eq (evFn cx0 ext0 n) n bx.length a0 a1 bx)

/-- scupper/scupperref09.Taken -/
def kp_r09_Taken : Option (List Nat) := some [0, 1, 2, 3, 6, 7, 8, 9, 17]
noncomputable def c_r09_Taken : Code := Try.f19.body.getD .skip
noncomputable def F_r09_Taken (E : FnA) (_n _n0 : Nat) (a0 a1 a2 : AV) (bx : Bx) : Option (Ex × S) :=
  (boxA bx a0).bind fun r1 =>
  (callA E md0 r1.2 34 [a1, a2]).bind fun r2 =>
  (pv r2.2 (tupA r2.1 0)).bind fun r3 =>
  (pv r3.2 (tupA r2.1 1)).bind fun r4 =>
  (pv r4.2 (unA .not r4.1)).bind fun r5 =>
  condA r5.1 (some (.ret, ⟨[(7, (.v (Go.Value.int Go.IntKind.i64 2))), (6, (.v (Go.Value.bool false))), (17, r5.1), (9, r4.1), (8, r3.1), (7, (.v (Go.Value.int Go.IntKind.i64 0))), (6, (.v (Go.Value.bool false))), (3, r1.1), (0, a0), (1, a1), (2, a2)], r5.2⟩)) ((pv r5.2 (sliceA Try.prog r5.2 23 r1.1 none none none)).bind fun r6 =>
  (callA E md0 r6.2 35 [r6.1, r3.1]).bind fun r7 =>
  (pv r7.2 (tupA r7.1 0)).bind fun r8 =>
  (pv r8.2 (tupA r7.1 1)).bind fun r9 =>
  some (.ret, ⟨[(7, r9.1), (6, r8.1), (17, r5.1), (9, r4.1), (8, r3.1), (7, (.v (Go.Value.int Go.IntKind.i64 0))), (6, (.v (Go.Value.bool false))), (3, r1.1), (0, a0), (1, a1), (2, a2)], r9.2⟩))
theorem c_r09_Taken_eq : Try.f19.body = some c_r09_Taken := by kernel_rfl
theorem d_r09_Taken : drawsOk Try.prog md0 c_r09_Taken = true := by kernel_rfl
theorem F_r09_Taken_eq (E : FnA) (n n0 : Nat) (a0 a1 a2 : AV) (bx : Bx) : evK Try.prog md0 E 23 kp_r09_Taken n n0 c_r09_Taken ⟨[(0, a0), (1, a1), (2, a2)], bx⟩ (fun s => some (.normal, s)) (fun i s => some (.exit i, s)) = F_r09_Taken E n n0 a0 a1 a2 bx := by kernel_rfl

theorem E_r09_Taken (n : Nat) (a0 a1 a2 : AV) (bx : Bx) : evFn cx0 ext0 (n + 1) 19 [a0, a1, a2] bx = fin Try.prog [.tmp 6, .tmp 7] (F_r09_Taken (evFn cx0 ext0 n) n bx.length a0 a1 a2 bx) := by
  rw [evFn_eq2 (cx := cx0) (c := c_r09_Taken) rfl Try.func19 c_r09_Taken_eq (of_decide_eq_true (by kernel_rfl)) d_r09_Taken (of_decide_eq_true (by kernel_rfl))]
  exact congrArg (fin Try.prog [.tmp 6, .tmp 7]) (F_r09_Taken_eq (evFn cx0 ext0 n) n bx.length a0 a1 a2 bx)

/-- scupper/scupperref09.With -/
def kp_r09_With : Option (List Nat) := some [0, 1, 2, 3, 4, 8, 9, 10, 11, 12, 21]
noncomputable def c_r09_With : Code := Try.f20.body.getD .skip
noncomputable def F_r09_With (E : FnA) (_n _n0 : Nat) (a0 a1 a2 a3 : AV) (bx : Bx) : Option (Ex × S) :=
  (boxA bx a0).bind fun r1 =>
  (allocA Try.prog r1.2 23).bind fun r2 =>
  (callA E md0 r2.2 34 [a1, a2]).bind fun r3 =>
  (pv r3.2 (tupA r3.1 0)).bind fun r4 =>
  (pv r4.2 (tupA r3.1 1)).bind fun r5 =>
  (pv r5.2 (unA .not r5.1)).bind fun r6 =>
  condA r6.1 ((pv r6.2 (buildA Try.prog 23 [])).bind fun r7 =>
  (stA Try.prog 23 r7.2 r2.1 r7.1).bind fun r8 =>
  some (.ret, ⟨[(9, (.v (Go.Value.int Go.IntKind.i64 2))), (21, r6.1), (11, r5.1), (10, r4.1), (9, (.v (Go.Value.int Go.IntKind.i64 0))), (8, r2.1), (4, r1.1), (0, a0), (1, a1), (2, a2), (3, a3)], r8.2⟩)) ((pv r6.2 (sliceA Try.prog r6.2 23 r1.1 none none none)).bind fun r9 =>
  (callA E md0 r9.2 36 [r9.1, r4.1, a3]).bind fun r10 =>
  (pv r10.2 (tupA r10.1 0)).bind fun r11 =>
  (pv r11.2 (tupA r10.1 1)).bind fun r12 =>
  (pv r12.2 (arrPtrA Try.prog 23 r11.1)).bind fun r13 =>
  (pv r13.2 (loadA Try.prog 23 r13.2 r13.1)).bind fun r14 =>
  (stA Try.prog 23 r14.2 r2.1 r14.1).bind fun r15 =>
  some (.ret, ⟨[(9, (.v (Go.Value.int Go.IntKind.i64 0))), (12, r11.1), (21, r6.1), (11, r5.1), (10, r4.1), (9, (.v (Go.Value.int Go.IntKind.i64 0))), (8, r2.1), (4, r1.1), (0, a0), (1, a1), (2, a2), (3, a3)], r15.2⟩))
theorem c_r09_With_eq : Try.f20.body = some c_r09_With := by kernel_rfl
theorem d_r09_With : drawsOk Try.prog md0 c_r09_With = true := by kernel_rfl
theorem F_r09_With_eq (E : FnA) (n n0 : Nat) (a0 a1 a2 a3 : AV) (bx : Bx) : evK Try.prog md0 E 33 kp_r09_With n n0 c_r09_With ⟨[(0, a0), (1, a1), (2, a2), (3, a3)], bx⟩ (fun s => some (.normal, s)) (fun i s => some (.exit i, s)) = F_r09_With E n n0 a0 a1 a2 a3 bx := by kernel_rfl

theorem E_r09_With (n : Nat) (a0 a1 a2 a3 : AV) (bx : Bx) : evFn cx0 ext0 (n + 1) 20 [a0, a1, a2, a3] bx = fin Try.prog [.cell 8 23, .tmp 9] (F_r09_With (evFn cx0 ext0 n) n bx.length a0 a1 a2 a3 bx) := by
  rw [evFn_eq2 (cx := cx0) (c := c_r09_With) rfl Try.func20 c_r09_With_eq (of_decide_eq_true (by kernel_rfl)) d_r09_With (of_decide_eq_true (by kernel_rfl))]
  exact congrArg (fin Try.prog [.cell 8 23, .tmp 9]) (F_r09_With_eq (evFn cx0 ext0 n) n bx.length a0 a1 a2 a3 bx)

/-- scupper/scupperref09.Byte -/
def kp_r09_Byte : Option (List Nat) := some [0, 1, 4, 5, 6, 7, 15]
noncomputable def c_r09_Byte : Code := Try.f21.body.getD .skip
noncomputable def F_r09_Byte (E : FnA) (_n _n0 : Nat) (a0 a1 : AV) (bx : Bx) : Option (Ex × S) :=
  (callA E md0 bx 34 [a0, a1]).bind fun r1 =>
  (pv r1.2 (tupA r1.1 0)).bind fun r2 =>
  (pv r2.2 (tupA r1.1 1)).bind fun r3 =>
  (pv r3.2 (unA .not r3.1)).bind fun r4 =>
  condA r4.1 (some (.ret, ⟨[(5, (.v (Go.Value.int Go.IntKind.i64 2))), (4, (.v (Go.Value.int Go.IntKind.i64 0))), (15, r4.1), (7, r3.1), (6, r2.1), (5, (.v (Go.Value.int Go.IntKind.i64 0))), (4, (.v (Go.Value.int Go.IntKind.i64 0))), (0, a0), (1, a1)], r4.2⟩)) ((pv r4.2 (binA Try.prog .quo 3 r2.1 (.v (Go.Value.int Go.IntKind.i64 8)))).bind fun r5 =>
  some (.ret, ⟨[(5, (.v (Go.Value.int Go.IntKind.i64 0))), (4, r5.1), (15, r4.1), (7, r3.1), (6, r2.1), (5, (.v (Go.Value.int Go.IntKind.i64 0))), (4, (.v (Go.Value.int Go.IntKind.i64 0))), (0, a0), (1, a1)], r5.2⟩))
theorem c_r09_Byte_eq : Try.f21.body = some c_r09_Byte := by kernel_rfl
theorem d_r09_Byte : drawsOk Try.prog md0 c_r09_Byte = true := by kernel_rfl
theorem F_r09_Byte_eq (E : FnA) (n n0 : Nat) (a0 a1 : AV) (bx : Bx) : evK Try.prog md0 E 18 kp_r09_Byte n n0 c_r09_Byte ⟨[(0, a0), (1, a1)], bx⟩ (fun s => some (.normal, s)) (fun i s => some (.exit i, s)) = F_r09_Byte E n n0 a0 a1 bx := by kernel_rfl

theorem E_r09_Byte (n : Nat) (a0 a1 : AV) (bx : Bx) : evFn cx0 ext0 (n + 1) 21 [a0, a1] bx = fin Try.prog [.tmp 4, .tmp 5] (F_r09_Byte (evFn cx0 ext0 n) n bx.length a0 a1 bx) := by
  rw [evFn_eq2 (cx := cx0) (c := c_r09_Byte) rfl Try.func21 c_r09_Byte_eq (of_decide_eq_true (by kernel_rfl)) d_r09_Byte (of_decide_eq_true (by kernel_rfl))]
  exact congrArg (fin Try.prog [.tmp 4, .tmp 5]) (F_r09_Byte_eq (evFn cx0 ext0 n) n bx.length a0 a1 bx)

/-- scupper/maps.many -/
def kp_maps_many : Option (List Nat) := some [0, 1, 2, 4, 5, 9, 14]
noncomputable def c_maps_many : Code := Try.f26.body.getD .skip
noncomputable def F_maps_many (E : FnA) (_n _n0 : Nat) (a0 a1 : AV) (bx : Bx) : Option (Ex × S) :=
  (boxA bx a0).bind fun r1 =>
  (pv r1.2 (loadA Try.prog 25 r1.2 r1.1)).bind fun r2 =>
  (callA E md0 r2.2 40 [r2.1]).bind fun r3 =>
  (pv r3.2 (binA Try.prog .neq 27 r3.1 (.v (Go.Value.int Go.IntKind.i64 0)))).bind fun r4 =>
  condA r4.1 (some (.ret, ⟨[(4, (.v (Go.Value.int Go.IntKind.i64 0))), (5, r4.1), (4, (.v (Go.Value.int Go.IntKind.i64 0))), (2, r1.1), (0, a0), (1, a1)], r4.2⟩)) ((pv r4.2 (binA Try.prog .eql 3 a1 (.v (Go.Value.int Go.IntKind.i64 0)))).bind fun r5 =>
  condA r5.1 ((pv r5.2 (fieldAddrA Try.prog 25 r1.1 2)).bind fun r6 =>
  (pv r6.2 (loadA Try.prog 3 r6.2 r6.1)).bind fun r7 =>
  some (.ret, ⟨[(4, r7.1), (9, r5.1), (5, r4.1), (4, (.v (Go.Value.int Go.IntKind.i64 0))), (2, r1.1), (0, a0), (1, a1)], r7.2⟩)) ((pv r5.2 (binA Try.prog .eql 3 a1 (.v (Go.Value.int Go.IntKind.i64 4)))).bind fun r8 =>
  condA r8.1 ((pv r8.2 (fieldAddrA Try.prog 25 r1.1 1)).bind fun r9 =>
  (pv r9.2 (loadA Try.prog 3 r9.2 r9.1)).bind fun r10 =>
  (pv r10.2 (binA Try.prog .mul 3 (.v (Go.Value.int Go.IntKind.i64 3)) r10.1)).bind fun r11 =>
  some (.ret, ⟨[(4, r11.1), (14, r8.1), (9, r5.1), (5, r4.1), (4, (.v (Go.Value.int Go.IntKind.i64 0))), (2, r1.1), (0, a0), (1, a1)], r11.2⟩)) (some (.ret, ⟨[(4, (.v (Go.Value.int Go.IntKind.i64 0))), (14, r8.1), (9, r5.1), (5, r4.1), (4, (.v (Go.Value.int Go.IntKind.i64 0))), (2, r1.1), (0, a0), (1, a1)], r8.2⟩))))
theorem c_maps_many_eq : Try.f26.body = some c_maps_many := by kernel_rfl
theorem d_maps_many : drawsOk Try.prog md0 c_maps_many = true := by kernel_rfl
theorem F_maps_many_eq (E : FnA) (n n0 : Nat) (a0 a1 : AV) (bx : Bx) : evK Try.prog md0 E 20 kp_maps_many n n0 c_maps_many ⟨[(0, a0), (1, a1)], bx⟩ (fun s => some (.normal, s)) (fun i s => some (.exit i, s)) = F_maps_many E n n0 a0 a1 bx := by kernel_rfl

theorem E_maps_many (n : Nat) (a0 a1 : AV) (bx : Bx) : evFn cx0 ext0 (n + 1) 26 [a0, a1] bx = fin Try.prog [.tmp 4] (F_maps_many (evFn cx0 ext0 n) n bx.length a0 a1 bx) := by
  rw [evFn_eq2 (cx := cx0) (c := c_maps_many) rfl Try.func26 c_maps_many_eq (of_decide_eq_true (by kernel_rfl)) d_maps_many (of_decide_eq_true (by kernel_rfl))]
  exact congrArg (fin Try.prog [.tmp 4]) (F_maps_many_eq (evFn cx0 ext0 n) n bx.length a0 a1 bx)

/-- scupper/num.First -/
def kp_num_First : Option (List Nat) := some [0, 1, 2, 6, 7, 8, 16, 26]
noncomputable def c_num_First : Code := Try.f27.body.getD .skip
noncomputable def L_num_First_0 (E : FnA) (_n _n0 : Nat) (s : S) : Option (Ex × S) :=
  (callA E md0 s.bx 43 [(get s.env 0), (get s.env 2)]).bind fun r9 =>
  (pv r9.2 (binA Try.prog .lss 3 (get s.env 7) r9.1)).bind fun r10 =>
  condA r10.1 ((callA E md0 r10.2 30 [(get (prune kp_num_First s.env) 0), (get (prune kp_num_First s.env) 7)]).bind fun r11 =>
  (pv r11.2 (tupA r11.1 0)).bind fun r12 =>
  (pv r12.2 (tupA r11.1 1)).bind fun r13 =>
  (pv r13.2 (unA .not r12.1)).bind fun r14 =>
  condA r14.1 (some (.ret, ⟨((6, (get (prune kp_num_First (prune kp_num_First (prune kp_num_First s.env))) 7)) :: (26, r14.1) :: (8, r12.1) :: (16, r10.1) :: (prune kp_num_First (prune kp_num_First (prune kp_num_First (prune kp_num_First s.env))))), r14.2⟩)) ((pv r14.2 (binA Try.prog .add 3 (get (prune kp_num_First (prune kp_num_First (prune kp_num_First s.env))) 7) (.v (Go.Value.int Go.IntKind.i64 1)))).bind fun r15 =>
  some (.normal, ⟨((7, r15.1) :: (26, r14.1) :: (8, r12.1) :: (16, r10.1) :: (prune kp_num_First (prune kp_num_First (prune kp_num_First (prune kp_num_First s.env))))), r15.2⟩))) (some (.exit 0, ⟨((16, r10.1) :: (prune kp_num_First s.env)), r10.2⟩))
noncomputable def B_num_First_0 (E : FnA) (_n _n0 : Nat) (x7 x6 x0 x1 x2 : AV) (y : Bx) : Option (Ex × S) :=
  (callA E md0 y 43 [x0, x2]).bind fun r2 =>
  (pv r2.2 (binA Try.prog .lss 3 x7 r2.1)).bind fun r3 =>
  condA r3.1 ((callA E md0 r3.2 30 [x0, x7]).bind fun r4 =>
  (pv r4.2 (tupA r4.1 0)).bind fun r5 =>
  (pv r5.2 (tupA r4.1 1)).bind fun r6 =>
  (pv r6.2 (unA .not r5.1)).bind fun r7 =>
  condA r7.1 (some (.ret, ⟨[(6, x7), (26, r7.1), (8, r5.1), (16, r3.1), (7, x7), (6, x6), (0, x0), (1, x1), (2, x2)], r7.2⟩)) ((pv r7.2 (binA Try.prog .add 3 x7 (.v (Go.Value.int Go.IntKind.i64 1)))).bind fun r8 =>
  some (.normal, ⟨[(7, r8.1), (26, r7.1), (8, r5.1), (16, r3.1), (7, x7), (6, x6), (0, x0), (1, x1), (2, x2)], r8.2⟩))) (some (.exit 0, ⟨[(16, r3.1), (7, x7), (6, x6), (0, x0), (1, x1), (2, x2)], r3.2⟩))
theorem L_num_First_0_lit {E : FnA} {n n0 : Nat} {x7 x6 x0 x1 x2 : AV} {y : Bx} {Q : Ex → S → Prop} (h : Ends (B_num_First_0 E n n0 x7 x6 x0 x1 x2 y) Q) : Ends (L_num_First_0 E n n0 ⟨[(7, x7), (6, x6), (0, x0), (1, x1), (2, x2)], y⟩) Q := by
  rw [show L_num_First_0 E n n0 ⟨[(7, x7), (6, x6), (0, x0), (1, x1), (2, x2)], y⟩ = B_num_First_0 E n n0 x7 x6 x0 x1 x2 y by kernel_rfl]
  exact h
noncomputable def K_num_First_0 (_E : FnA) (_n _n0 : Nat) (t : S) : Option (Ex × S) :=
  some (.ret, ⟨((6, (.v (Go.Value.int Go.IntKind.i64 (-1)))) :: (prune kp_num_First t.env)), t.bx⟩)
noncomputable def X_num_First_0 (_E : FnA) (_n _n0 : Nat) (i : Nat) (t : S) : Option (Ex × S) :=
  if i = 0 then some (.ret, ⟨((6, (.v (Go.Value.int Go.IntKind.i64 (-1)))) :: (prune kp_num_First t.env)), t.bx⟩) else some (.exit i, ⟨t.env, t.bx⟩)
noncomputable def X_num_First_0_0 (_E : FnA) (_n _n0 : Nat) (x16 x7 x6 x0 x1 x2 : AV) (y : Bx) : Option (Ex × S) :=
  some (.ret, ⟨[(6, (.v (Go.Value.int Go.IntKind.i64 (-1)))), (16, x16), (7, x7), (6, x6), (0, x0), (1, x1), (2, x2)], y⟩)
theorem X_num_First_0_0_lit {E : FnA} {n n0 : Nat} {x16 x7 x6 x0 x1 x2 : AV} {y : Bx} {Q : Ex → S → Prop} (h : Ends (X_num_First_0_0 E n n0 x16 x7 x6 x0 x1 x2 y) Q) : Ends (X_num_First_0 E n n0 0 ⟨[(16, x16), (7, x7), (6, x6), (0, x0), (1, x1), (2, x2)], y⟩) Q := by
  rw [show X_num_First_0 E n n0 0 ⟨[(16, x16), (7, x7), (6, x6), (0, x0), (1, x1), (2, x2)], y⟩ = X_num_First_0_0 E n n0 x16 x7 x6 x0 x1 x2 y by kernel_rfl]
  exact h
noncomputable def F_num_First (E : FnA) (n n0 : Nat) (a0 a1 a2 : AV) (bx : Bx) : Option (Ex × S) :=
  (pv bx (minL true a1 [(.v (Go.Value.int Go.IntKind.i64 0))])).bind fun r1 =>
  exitA (iter ⟨[(7, r1.1), (6, (.v (Go.Value.int Go.IntKind.i64 0))), (0, a0), (1, a1), (2, a2)], r1.2⟩ (L_num_First_0 E n n0) n ⟨[(7, r1.1), (6, (.v (Go.Value.int Go.IntKind.i64 0))), (0, a0), (1, a1), (2, a2)], r1.2⟩) (K_num_First_0 E n n0) (X_num_First_0 E n n0)
theorem c_num_First_eq : Try.f27.body = some c_num_First := by kernel_rfl
theorem d_num_First : drawsOk Try.prog md0 c_num_First = true := by kernel_rfl
theorem F_num_First_eq (E : FnA) (n n0 : Nat) (a0 a1 a2 : AV) (bx : Bx) : evK Try.prog md0 E 28 kp_num_First n n0 c_num_First ⟨[(0, a0), (1, a1), (2, a2)], bx⟩ (fun s => some (.normal, s)) (fun i s => some (.exit i, s)) = F_num_First E n n0 a0 a1 a2 bx := by kernel_rfl

theorem E_num_First (n : Nat) (a0 a1 a2 : AV) (bx : Bx) : evFn cx0 ext0 (n + 1) 27 [a0, a1, a2] bx = fin Try.prog [.tmp 6] (F_num_First (evFn cx0 ext0 n) n bx.length a0 a1 a2 bx) := by
  rw [evFn_eq2 (cx := cx0) (c := c_num_First) rfl Try.func27 c_num_First_eq (of_decide_eq_true (by kernel_rfl)) d_num_First (of_decide_eq_true (by kernel_rfl))]
  exact congrArg (fin Try.prog [.tmp 6]) (F_num_First_eq (evFn cx0 ext0 n) n bx.length a0 a1 a2 bx)

/-- scupper/num.Bit -/
def kp_num_Bit : Option (List Nat) := some [0, 1, 4, 5, 6, 7, 8]
noncomputable def c_num_Bit : Code := Try.f30.body.getD .skip
noncomputable def F_num_Bit (E : FnA) (_n _n0 : Nat) (a0 a1 : AV) (bx : Bx) : Option (Ex × S) :=
  (callA E md0 bx 44 [a0, a1]).bind fun r1 =>
  (pv r1.2 (tupA r1.1 0)).bind fun r2 =>
  (pv r2.2 (tupA r1.1 1)).bind fun r3 =>
  (pv r3.2 (tupA r1.1 2)).bind fun r4 =>
  (pv r4.2 (binA Try.prog .eql 27 r4.1 (.v (Go.Value.int Go.IntKind.i64 0)))).bind fun r5 =>
  (gsel true r5.2 (some (a0, r5.2)) r5.1).bind fun r6 =>
  (gsel true r6.2 (some (r2.1, r6.2)) r5.1).bind fun r7 =>
  (gsel true r7.2 (pv r7.2 (indexAddrA Try.prog 47 r6.1 r7.1)) r5.1).bind fun r8 =>
  (gsel true r8.2 (pv r8.2 (loadA Try.prog 5 r8.2 r8.1)) r5.1).bind fun r9 =>
  (gsel true r9.2 (some (r3.1, r9.2)) r5.1).bind fun r10 =>
  (gsel true r10.2 (pv r10.2 (binA Try.prog .and 5 r9.1 r10.1)) r5.1).bind fun r11 =>
  (gsel true r11.2 (pv r11.2 (binA Try.prog .neq 5 r11.1 (.v (Go.Value.int Go.IntKind.u8 0)))) r5.1).bind fun r12 =>
  (pv r12.2 (pickA r5.1 r12.1 (.v (Go.Value.bool false)))).bind fun r13 =>
  some (.ret, ⟨[(5, r4.1), (4, r13.1), (8, r4.1), (7, r3.1), (6, r2.1), (5, (.v (Go.Value.int Go.IntKind.i64 0))), (4, (.v (Go.Value.bool false))), (0, a0), (1, a1)], r13.2⟩)
theorem c_num_Bit_eq : Try.f30.body = some c_num_Bit := by kernel_rfl
theorem d_num_Bit : drawsOk Try.prog md0 c_num_Bit = true := by kernel_rfl
theorem F_num_Bit_eq (E : FnA) (n n0 : Nat) (a0 a1 : AV) (bx : Bx) : evK Try.prog md0 E 28 kp_num_Bit n n0 c_num_Bit ⟨[(0, a0), (1, a1)], bx⟩ (fun s => some (.normal, s)) (fun i s => some (.exit i, s)) = F_num_Bit E n n0 a0 a1 bx := by kernel_rfl

theorem E_num_Bit (n : Nat) (a0 a1 : AV) (bx : Bx) : evFn cx0 ext0 (n + 1) 30 [a0, a1] bx = fin Try.prog [.tmp 4, .tmp 5] (F_num_Bit (evFn cx0 ext0 n) n bx.length a0 a1 bx) := by
  rw [evFn_eq2 (cx := cx0) (c := c_num_Bit) rfl Try.func30 c_num_Bit_eq (of_decide_eq_true (by kernel_rfl)) d_num_Bit (of_decide_eq_true (by kernel_rfl))]
  exact congrArg (fin Try.prog [.tmp 4, .tmp 5]) (F_num_Bit_eq (evFn cx0 ext0 n) n bx.length a0 a1 bx)

/-- scupper/scupperref09.many -/
def kp_r09_many : Option (List Nat) := some [0, 1, 2, 4, 7, 9, 13]
noncomputable def c_r09_many : Code := Try.f31.body.getD .skip
noncomputable def F_r09_many (E : FnA) (_n _n0 : Nat) (a0 a1 : AV) (bx : Bx) : Option (Ex × S) :=
  (boxA bx a0).bind fun r1 =>
  (pv r1.2 (loadA Try.prog 25 r1.2 r1.1)).bind fun r2 =>
  (callA E md0 r2.2 42 [r2.1]).bind fun r3 =>
  (pv r3.2 (binA Try.prog .neq 27 r3.1 (.v (Go.Value.int Go.IntKind.i64 0)))).bind fun r4 =>
  condA r4.1 (some (.ret, ⟨[(4, (.v (Go.Value.int Go.IntKind.i64 0))), (7, r4.1), (4, (.v (Go.Value.int Go.IntKind.i64 0))), (2, r1.1), (0, a0), (1, a1)], r4.2⟩)) ((pv r4.2 (binA Try.prog .eql 3 a1 (.v (Go.Value.int Go.IntKind.i64 0)))).bind fun r5 =>
  condA r5.1 ((pv r5.2 (fieldAddrA Try.prog 25 r1.1 2)).bind fun r6 =>
  (pv r6.2 (loadA Try.prog 3 r6.2 r6.1)).bind fun r7 =>
  some (.ret, ⟨[(4, r7.1), (9, r5.1), (7, r4.1), (4, (.v (Go.Value.int Go.IntKind.i64 0))), (2, r1.1), (0, a0), (1, a1)], r7.2⟩)) ((pv r5.2 (binA Try.prog .eql 3 a1 (.v (Go.Value.int Go.IntKind.i64 4)))).bind fun r8 =>
  condA r8.1 ((pv r8.2 (fieldAddrA Try.prog 25 r1.1 1)).bind fun r9 =>
  (pv r9.2 (loadA Try.prog 3 r9.2 r9.1)).bind fun r10 =>
  (pv r10.2 (binA Try.prog .mul 3 (.v (Go.Value.int Go.IntKind.i64 3)) r10.1)).bind fun r11 =>
  some (.ret, ⟨[(4, r11.1), (13, r8.1), (9, r5.1), (7, r4.1), (4, (.v (Go.Value.int Go.IntKind.i64 0))), (2, r1.1), (0, a0), (1, a1)], r11.2⟩)) (some (.ret, ⟨[(4, (.v (Go.Value.int Go.IntKind.i64 0))), (13, r8.1), (9, r5.1), (7, r4.1), (4, (.v (Go.Value.int Go.IntKind.i64 0))), (2, r1.1), (0, a0), (1, a1)], r8.2⟩))))
theorem c_r09_many_eq : Try.f31.body = some c_r09_many := by kernel_rfl
theorem d_r09_many : drawsOk Try.prog md0 c_r09_many = true := by kernel_rfl
theorem F_r09_many_eq (E : FnA) (n n0 : Nat) (a0 a1 : AV) (bx : Bx) : evK Try.prog md0 E 17 kp_r09_many n n0 c_r09_many ⟨[(0, a0), (1, a1)], bx⟩ (fun s => some (.normal, s)) (fun i s => some (.exit i, s)) = F_r09_many E n n0 a0 a1 bx := by kernel_rfl

theorem E_r09_many (n : Nat) (a0 a1 : AV) (bx : Bx) : evFn cx0 ext0 (n + 1) 31 [a0, a1] bx = fin Try.prog [.tmp 4] (F_r09_many (evFn cx0 ext0 n) n bx.length a0 a1 bx) := by
  rw [evFn_eq2 (cx := cx0) (c := c_r09_many) rfl Try.func31 c_r09_many_eq (of_decide_eq_true (by kernel_rfl)) d_r09_many (of_decide_eq_true (by kernel_rfl))]
  exact congrArg (fin Try.prog [.tmp 4]) (F_r09_many_eq (evFn cx0 ext0 n) n bx.length a0 a1 bx)

/-- scupper/num.With -/
def kp_num_With : Option (List Nat) := some [0, 1, 2, 6, 7, 8, 9, 10, 11, 20, 31]
noncomputable def c_num_With : Code := Try.f32.body.getD .skip
noncomputable def F_num_With (E : FnA) (_n _n0 : Nat) (a0 a1 a2 : AV) (bx : Bx) : Option (Ex × S) :=
  (some (AV.bsl (List.length bx) 0 0 0, bx ++ [[]])).bind fun r1 =>
  (callA E md_num_With r1.2 44 [a0, a1]).bind fun r2 =>
  (pv r2.2 (tupA r2.1 0)).bind fun r3 =>
  (pv r3.2 (tupA r2.1 1)).bind fun r4 =>
  (pv r4.2 (tupA r2.1 2)).bind fun r5 =>
  (pv r5.2 (binA Try.prog .neq 27 r5.1 (.v (Go.Value.int Go.IntKind.i64 0)))).bind fun r6 =>
  condA r6.1 ((some (AV.bsl (List.length r6.2) 0 0 0, r6.2 ++ [[]])).bind fun r7 =>
  some (.ret, ⟨[(7, r5.1), (6, r7.1), (20, r6.1), (10, r5.1), (9, r4.1), (8, r3.1), (7, (.v (Go.Value.int Go.IntKind.i64 0))), (6, r1.1), (0, a0), (1, a1), (2, a2)], r7.2⟩)) ((callA E md_num_With r6.2 45 [a0]).bind fun r8 =>
  (pv r8.2 (indexAddrA Try.prog 47 r8.1 r3.1)).bind fun r9 =>
  (pv r9.2 (loadA Try.prog 5 r9.2 r9.1)).bind fun r10 =>
  (pv r10.2 (binA Try.prog .andNot 5 r10.1 r4.1)).bind fun r11 =>
  (pv r11.2 (indexAddrA Try.prog 47 r8.1 r3.1)).bind fun r12 =>
  (stA Try.prog 5 r12.2 r12.1 r11.1).bind fun r13 =>
  condA a2 ((pv r13.2 (indexAddrA Try.prog 47 r8.1 r3.1)).bind fun r14 =>
  (pv r14.2 (loadA Try.prog 5 r14.2 r14.1)).bind fun r15 =>
  (pv r15.2 (binA Try.prog .or 5 r15.1 r4.1)).bind fun r16 =>
  (pv r16.2 (indexAddrA Try.prog 47 r8.1 r3.1)).bind fun r17 =>
  (stA Try.prog 5 r17.2 r17.1 r16.1).bind fun r18 =>
  some (.ret, ⟨[(7, r5.1), (6, r8.1), (31, a2), (11, r8.1), (20, r6.1), (10, r5.1), (9, r4.1), (8, r3.1), (7, (.v (Go.Value.int Go.IntKind.i64 0))), (6, r1.1), (0, a0), (1, a1), (2, a2)], r18.2⟩)) (some (.ret, ⟨[(7, r5.1), (6, r8.1), (31, a2), (11, r8.1), (20, r6.1), (10, r5.1), (9, r4.1), (8, r3.1), (7, (.v (Go.Value.int Go.IntKind.i64 0))), (6, r1.1), (0, a0), (1, a1), (2, a2)], r13.2⟩)))
theorem c_num_With_eq : Try.f32.body = some c_num_With := by kernel_rfl
theorem d_num_With : drawsOk Try.prog md_num_With c_num_With = true := by kernel_rfl
theorem F_num_With_eq (E : FnA) (n n0 : Nat) (a0 a1 a2 : AV) (bx : Bx) : evK Try.prog md_num_With E 41 kp_num_With n n0 c_num_With ⟨[(0, a0), (1, a1), (2, a2)], bx⟩ (fun s => some (.normal, s)) (fun i s => some (.exit i, s)) = F_num_With E n n0 a0 a1 a2 bx := by kernel_rfl

theorem E_num_With (n : Nat) (a0 a1 a2 : AV) (bx : Bx) : evFn cx0 ext0 (n + 1) 32 [a0, a1, a2] bx = fin Try.prog [.tmp 6, .tmp 7] (F_num_With (evFn cx0 ext0 n) n bx.length a0 a1 a2 bx) := by
  rw [evFn_eq2 (cx := cx0) (c := c_num_With) rfl Try.func32 c_num_With_eq (of_decide_eq_true (by kernel_rfl)) d_num_With (of_decide_eq_true (by kernel_rfl))]
  exact congrArg (fin Try.prog [.tmp 6, .tmp 7]) (F_num_With_eq (evFn cx0 ext0 n) n bx.length a0 a1 a2 bx)

/-- scupper/num.Put16 -/
def kp_num_Put16 : Option (List Nat) := some [0, 2]
noncomputable def c_num_Put16 : Code := Try.f33.body.getD .skip
noncomputable def F_num_Put16 (_E : FnA) (_n _n0 : Nat) (a0 : AV) (bx : Bx) : Option (Ex × S) :=
  (allocA Try.prog bx 53).bind fun r1 =>
  (convA Try.prog r1.2 55 5 a0).bind fun r2 =>
  (pv r2.2 (binA Try.prog .shr 55 a0 (.v (Go.Value.int Go.IntKind.u64 8)))).bind fun r3 =>
  (convA Try.prog r3.2 55 5 r3.1).bind fun r4 =>
  (pv r4.2 (buildA Try.prog 53 [(0, r2.1), (1, r4.1)])).bind fun r5 =>
  (stA Try.prog 53 r5.2 r1.1 r5.1).bind fun r6 =>
  some (.ret, ⟨[(2, r1.1), (0, a0)], r6.2⟩)
theorem c_num_Put16_eq : Try.f33.body = some c_num_Put16 := by kernel_rfl
theorem d_num_Put16 : drawsOk Try.prog md0 c_num_Put16 = true := by kernel_rfl
theorem F_num_Put16_eq (E : FnA) (n n0 : Nat) (a0 : AV) (bx : Bx) : evK Try.prog md0 E 9 kp_num_Put16 n n0 c_num_Put16 ⟨[(0, a0)], bx⟩ (fun s => some (.normal, s)) (fun i s => some (.exit i, s)) = F_num_Put16 E n n0 a0 bx := by kernel_rfl

theorem E_num_Put16 (n : Nat) (a0 : AV) (bx : Bx) : evFn cx0 ext0 (n + 1) 33 [a0] bx = fin Try.prog [.cell 2 53] (F_num_Put16 (evFn cx0 ext0 n) n bx.length a0 bx) := by
  rw [evFn_eq2 (cx := cx0) (c := c_num_Put16) rfl Try.func33 c_num_Put16_eq (of_decide_eq_true (by kernel_rfl)) d_num_Put16 (of_decide_eq_true (by kernel_rfl))]
  exact congrArg (fin Try.prog [.cell 2 53]) (F_num_Put16_eq (evFn cx0 ext0 n) n bx.length a0 bx)

/-- scupper/scupperref09.bit -/
def kp_r09_bit : Option (List Nat) := some [0, 1, 4, 5, 15, 26]
noncomputable def c_r09_bit : Code := Try.f34.body.getD .skip
noncomputable def F_r09_bit (_E : FnA) (_n _n0 : Nat) (a0 a1 : AV) (bx : Bx) : Option (Ex × S) :=
  (pv bx (binA Try.prog .eql 3 a0 (.v (Go.Value.int Go.IntKind.i64 0)))).bind fun r1 =>
  (gsel true r1.2 (some (a1, r1.2)) r1.1).bind fun r2 =>
  (gsel true r2.2 (pv r2.2 (binA Try.prog .geq 3 r2.1 (.v (Go.Value.int Go.IntKind.i64 0)))) r1.1).bind fun r3 =>
  (pv r3.2 (pickA r1.1 r3.1 (.v (Go.Value.bool false)))).bind fun r4 =>
  (gsel true r4.2 (some (a1, r4.2)) r4.1).bind fun r5 =>
  (gsel true r5.2 (pv r5.2 (binA Try.prog .lss 3 r5.1 (.v (Go.Value.int Go.IntKind.i64 128)))) r4.1).bind fun r6 =>
  (pv r6.2 (pickA r4.1 r6.1 (.v (Go.Value.bool false)))).bind fun r7 =>
  condA r7.1 (some (.ret, ⟨[(5, (.v (Go.Value.bool true))), (4, a1), (15, r7.1), (5, (.v (Go.Value.bool false))), (4, (.v (Go.Value.int Go.IntKind.i64 0))), (0, a0), (1, a1)], r7.2⟩)) ((pv r7.2 (binA Try.prog .eql 3 a0 (.v (Go.Value.int Go.IntKind.i64 4)))).bind fun r8 =>
  (gsel true r8.2 (some (a1, r8.2)) r8.1).bind fun r9 =>
  (gsel true r9.2 (pv r9.2 (binA Try.prog .geq 3 r9.1 (.v (Go.Value.int Go.IntKind.i64 0)))) r8.1).bind fun r10 =>
  (pv r10.2 (pickA r8.1 r10.1 (.v (Go.Value.bool false)))).bind fun r11 =>
  (gsel true r11.2 (some (a1, r11.2)) r11.1).bind fun r12 =>
  (gsel true r12.2 (pv r12.2 (binA Try.prog .lss 3 r12.1 (.v (Go.Value.int Go.IntKind.i64 24)))) r11.1).bind fun r13 =>
  (pv r13.2 (pickA r11.1 r13.1 (.v (Go.Value.bool false)))).bind fun r14 =>
  condA r14.1 ((pv r14.2 (binA Try.prog .add 3 (.v (Go.Value.int Go.IntKind.i64 128)) a1)).bind fun r15 =>
  some (.ret, ⟨[(5, (.v (Go.Value.bool true))), (4, r15.1), (26, r14.1), (15, r7.1), (5, (.v (Go.Value.bool false))), (4, (.v (Go.Value.int Go.IntKind.i64 0))), (0, a0), (1, a1)], r15.2⟩)) (some (.ret, ⟨[(5, (.v (Go.Value.bool false))), (4, (.v (Go.Value.int Go.IntKind.i64 0))), (26, r14.1), (15, r7.1), (5, (.v (Go.Value.bool false))), (4, (.v (Go.Value.int Go.IntKind.i64 0))), (0, a0), (1, a1)], r14.2⟩)))
theorem c_r09_bit_eq : Try.f34.body = some c_r09_bit := by kernel_rfl
theorem d_r09_bit : drawsOk Try.prog md0 c_r09_bit = true := by kernel_rfl
theorem F_r09_bit_eq (E : FnA) (n n0 : Nat) (a0 a1 : AV) (bx : Bx) : evK Try.prog md0 E 29 kp_r09_bit n n0 c_r09_bit ⟨[(0, a0), (1, a1)], bx⟩ (fun s => some (.normal, s)) (fun i s => some (.exit i, s)) = F_r09_bit E n n0 a0 a1 bx := by kernel_rfl

theorem E_r09_bit (n : Nat) (a0 a1 : AV) (bx : Bx) : evFn cx0 ext0 (n + 1) 34 [a0, a1] bx = fin Try.prog [.tmp 4, .tmp 5] (F_r09_bit (evFn cx0 ext0 n) n bx.length a0 a1 bx) := by
  rw [evFn_eq2 (cx := cx0) (c := c_r09_bit) rfl Try.func34 c_r09_bit_eq (of_decide_eq_true (by kernel_rfl)) d_r09_bit (of_decide_eq_true (by kernel_rfl))]
  exact congrArg (fin Try.prog [.tmp 4, .tmp 5]) (F_r09_bit_eq (evFn cx0 ext0 n) n bx.length a0 a1 bx)

/-- scupper/scupperref01.Bit -/
def kp_r01_Bit : Option (List Nat) := some [0, 1, 4, 5, 14]
noncomputable def c_r01_Bit : Code := Try.f35.body.getD .skip
noncomputable def F_r01_Bit (E : FnA) (_n _n0 : Nat) (a0 a1 : AV) (bx : Bx) : Option (Ex × S) :=
  (pv bx (binA Try.prog .lss 3 a1 (.v (Go.Value.int Go.IntKind.i64 0)))).bind fun r1 =>
  (gsel false r1.2 (some (a1, r1.2)) r1.1).bind fun r2 =>
  (gsel false r2.2 (pv r2.2 (binA Try.prog .quo 3 r2.1 (.v (Go.Value.int Go.IntKind.i64 8)))) r1.1).bind fun r3 =>
  (gsel false r3.2 (some (a0, r3.2)) r1.1).bind fun r4 =>
  (gsel false r4.2 (pv r4.2 (lenA Try.prog 47 r4.1)) r1.1).bind fun r5 =>
  (gsel false r5.2 (pv r5.2 (binA Try.prog .geq 3 r3.1 r5.1)) r1.1).bind fun r6 =>
  (pv r6.2 (pickA r1.1 (.v (Go.Value.bool true)) r6.1)).bind fun r7 =>
  condA r7.1 (some (.ret, ⟨[(5, (.v (Go.Value.int Go.IntKind.i64 2))), (4, (.v (Go.Value.bool false))), (14, r7.1), (5, (.v (Go.Value.int Go.IntKind.i64 0))), (4, (.v (Go.Value.bool false))), (0, a0), (1, a1)], r7.2⟩)) ((pv r7.2 (binA Try.prog .quo 3 a1 (.v (Go.Value.int Go.IntKind.i64 8)))).bind fun r8 =>
  (pv r8.2 (indexAddrA Try.prog 47 a0 r8.1)).bind fun r9 =>
  (pv r9.2 (loadA Try.prog 5 r9.2 r9.1)).bind fun r10 =>
  (convA Try.prog r10.2 5 3 r10.1).bind fun r11 =>
  (pv r11.2 (binA Try.prog .rem 3 a1 (.v (Go.Value.int Go.IntKind.i64 8)))).bind fun r12 =>
  (callA E md0 r12.2 46 [r12.1]).bind fun r13 =>
  (pv r13.2 (binA Try.prog .quo 3 r11.1 r13.1)).bind fun r14 =>
  (pv r14.2 (binA Try.prog .rem 3 r14.1 (.v (Go.Value.int Go.IntKind.i64 2)))).bind fun r15 =>
  (pv r15.2 (binA Try.prog .eql 3 r15.1 (.v (Go.Value.int Go.IntKind.i64 1)))).bind fun r16 =>
  some (.ret, ⟨[(5, (.v (Go.Value.int Go.IntKind.i64 0))), (4, r16.1), (14, r7.1), (5, (.v (Go.Value.int Go.IntKind.i64 0))), (4, (.v (Go.Value.bool false))), (0, a0), (1, a1)], r16.2⟩))
theorem c_r01_Bit_eq : Try.f35.body = some c_r01_Bit := by kernel_rfl
theorem d_r01_Bit : drawsOk Try.prog md0 c_r01_Bit = true := by kernel_rfl
theorem F_r01_Bit_eq (E : FnA) (n n0 : Nat) (a0 a1 : AV) (bx : Bx) : evK Try.prog md0 E 27 kp_r01_Bit n n0 c_r01_Bit ⟨[(0, a0), (1, a1)], bx⟩ (fun s => some (.normal, s)) (fun i s => some (.exit i, s)) = F_r01_Bit E n n0 a0 a1 bx := by kernel_rfl

theorem E_r01_Bit (n : Nat) (a0 a1 : AV) (bx : Bx) : evFn cx0 ext0 (n + 1) 35 [a0, a1] bx = fin Try.prog [.tmp 4, .tmp 5] (F_r01_Bit (evFn cx0 ext0 n) n bx.length a0 a1 bx) := by
  rw [evFn_eq2 (cx := cx0) (c := c_r01_Bit) rfl Try.func35 c_r01_Bit_eq (of_decide_eq_true (by kernel_rfl)) d_r01_Bit (of_decide_eq_true (by kernel_rfl))]
  exact congrArg (fin Try.prog [.tmp 4, .tmp 5]) (F_r01_Bit_eq (evFn cx0 ext0 n) n bx.length a0 a1 bx)

/-- scupper/scupperref01.With -/
def kp_r01_With : Option (List Nat) := some [0, 1, 2, 6, 7, 8, 9, 10, 18, 27, 43]
noncomputable def c_r01_With : Code := Try.f36.body.getD .skip
noncomputable def F_r01_With (E : FnA) (_n n0 : Nat) (a0 a1 a2 : AV) (bx : Bx) : Option (Ex × S) :=
  (some (AV.bsl (List.length bx) 0 0 0, bx ++ [[]])).bind fun r1 =>
  (callA E md0 r1.2 35 [a0, a1]).bind fun r2 =>
  (pv r2.2 (tupA r2.1 0)).bind fun r3 =>
  (pv r3.2 (tupA r2.1 1)).bind fun r4 =>
  (pv r4.2 (binA Try.prog .neq 27 r4.1 (.v (Go.Value.int Go.IntKind.i64 0)))).bind fun r5 =>
  condA r5.1 ((some (AV.bsl (List.length r5.2) 0 0 0, r5.2 ++ [[]])).bind fun r6 =>
  some (.ret, ⟨[(7, r4.1), (6, r6.1), (18, r5.1), (9, r4.1), (8, r3.1), (7, (.v (Go.Value.int Go.IntKind.i64 0))), (6, r1.1), (0, a0), (1, a1), (2, a2)], r6.2⟩)) ((buildSliceA Try.prog r5.2 47 0 []).bind fun r7 =>
  (appA Try.prog n0 r7.2 47 r7.1 a0).bind fun r8 =>
  (gsel true r8.2.2 (some ((r8.2.1 r3.1), r8.2.2)) (r8.2.1 a2)).bind fun r9 =>
  (gsel true r9.2 (pv r9.2 (unA .not r9.1)) (r8.2.1 a2)).bind fun r10 =>
  (pv r10.2 (pickA (r8.2.1 a2) r10.1 (.v (Go.Value.bool false)))).bind fun r11 =>
  condA r11.1 ((pv r11.2 (binA Try.prog .quo 3 (r8.2.1 a1) (.v (Go.Value.int Go.IntKind.i64 8)))).bind fun r12 =>
  (pv r12.2 (indexAddrA Try.prog 47 r8.1 r12.1)).bind fun r13 =>
  (pv r13.2 (loadA Try.prog 5 r13.2 r13.1)).bind fun r14 =>
  (pv r14.2 (binA Try.prog .rem 3 (r8.2.1 a1) (.v (Go.Value.int Go.IntKind.i64 8)))).bind fun r15 =>
  (callA E md0 r15.2 46 [r15.1]).bind fun r16 =>
  (convA Try.prog r16.2 3 5 r16.1).bind fun r17 =>
  (pv r17.2 (binA Try.prog .add 5 r14.1 r17.1)).bind fun r18 =>
  (pv r18.2 (indexAddrA Try.prog 47 r8.1 r12.1)).bind fun r19 =>
  (stA Try.prog 5 r19.2 r19.1 r18.1).bind fun r20 =>
  (pv r20.2 (unA .not (r8.2.1 a2))).bind fun r21 =>
  (gsel true r21.2 (some ((r8.2.1 r3.1), r21.2)) r21.1).bind fun r22 =>
  (pv r22.2 (pickA r21.1 r22.1 (.v (Go.Value.bool false)))).bind fun r23 =>
  condA r23.1 ((pv r23.2 (binA Try.prog .quo 3 (r8.2.1 a1) (.v (Go.Value.int Go.IntKind.i64 8)))).bind fun r24 =>
  (pv r24.2 (indexAddrA Try.prog 47 r8.1 r24.1)).bind fun r25 =>
  (pv r25.2 (loadA Try.prog 5 r25.2 r25.1)).bind fun r26 =>
  (pv r26.2 (binA Try.prog .rem 3 (r8.2.1 a1) (.v (Go.Value.int Go.IntKind.i64 8)))).bind fun r27 =>
  (callA E md0 r27.2 46 [r27.1]).bind fun r28 =>
  (convA Try.prog r28.2 3 5 r28.1).bind fun r29 =>
  (pv r29.2 (binA Try.prog .sub 5 r26.1 r29.1)).bind fun r30 =>
  (pv r30.2 (indexAddrA Try.prog 47 r8.1 r24.1)).bind fun r31 =>
  (stA Try.prog 5 r31.2 r31.1 r30.1).bind fun r32 =>
  some (.ret, ⟨[(7, (.v (Go.Value.int Go.IntKind.i64 0))), (6, r8.1), (43, r23.1), (27, r11.1), (10, r8.1), (18, (r8.2.1 r5.1)), (9, (r8.2.1 r4.1)), (8, (r8.2.1 r3.1)), (7, (r8.2.1 (.v (Go.Value.int Go.IntKind.i64 0)))), (6, (r8.2.1 r1.1)), (0, (r8.2.1 a0)), (1, (r8.2.1 a1)), (2, (r8.2.1 a2))], r32.2⟩)) (some (.ret, ⟨[(7, (.v (Go.Value.int Go.IntKind.i64 0))), (6, r8.1), (43, r23.1), (27, r11.1), (10, r8.1), (18, (r8.2.1 r5.1)), (9, (r8.2.1 r4.1)), (8, (r8.2.1 r3.1)), (7, (r8.2.1 (.v (Go.Value.int Go.IntKind.i64 0)))), (6, (r8.2.1 r1.1)), (0, (r8.2.1 a0)), (1, (r8.2.1 a1)), (2, (r8.2.1 a2))], r23.2⟩))) ((pv r11.2 (unA .not (r8.2.1 a2))).bind fun r33 =>
  (gsel true r33.2 (some ((r8.2.1 r3.1), r33.2)) r33.1).bind fun r34 =>
  (pv r34.2 (pickA r33.1 r34.1 (.v (Go.Value.bool false)))).bind fun r35 =>
  condA r35.1 ((pv r35.2 (binA Try.prog .quo 3 (r8.2.1 a1) (.v (Go.Value.int Go.IntKind.i64 8)))).bind fun r36 =>
  (pv r36.2 (indexAddrA Try.prog 47 r8.1 r36.1)).bind fun r37 =>
  (pv r37.2 (loadA Try.prog 5 r37.2 r37.1)).bind fun r38 =>
  (pv r38.2 (binA Try.prog .rem 3 (r8.2.1 a1) (.v (Go.Value.int Go.IntKind.i64 8)))).bind fun r39 =>
  (callA E md0 r39.2 46 [r39.1]).bind fun r40 =>
  (convA Try.prog r40.2 3 5 r40.1).bind fun r41 =>
  (pv r41.2 (binA Try.prog .sub 5 r38.1 r41.1)).bind fun r42 =>
  (pv r42.2 (indexAddrA Try.prog 47 r8.1 r36.1)).bind fun r43 =>
  (stA Try.prog 5 r43.2 r43.1 r42.1).bind fun r44 =>
  some (.ret, ⟨[(7, (.v (Go.Value.int Go.IntKind.i64 0))), (6, r8.1), (43, r35.1), (27, r11.1), (10, r8.1), (18, (r8.2.1 r5.1)), (9, (r8.2.1 r4.1)), (8, (r8.2.1 r3.1)), (7, (r8.2.1 (.v (Go.Value.int Go.IntKind.i64 0)))), (6, (r8.2.1 r1.1)), (0, (r8.2.1 a0)), (1, (r8.2.1 a1)), (2, (r8.2.1 a2))], r44.2⟩)) (some (.ret, ⟨[(7, (.v (Go.Value.int Go.IntKind.i64 0))), (6, r8.1), (43, r35.1), (27, r11.1), (10, r8.1), (18, (r8.2.1 r5.1)), (9, (r8.2.1 r4.1)), (8, (r8.2.1 r3.1)), (7, (r8.2.1 (.v (Go.Value.int Go.IntKind.i64 0)))), (6, (r8.2.1 r1.1)), (0, (r8.2.1 a0)), (1, (r8.2.1 a1)), (2, (r8.2.1 a2))], r35.2⟩))))
theorem c_r01_With_eq : Try.f36.body = some c_r01_With := by kernel_rfl
theorem d_r01_With : drawsOk Try.prog md0 c_r01_With = true := by kernel_rfl
theorem F_r01_With_eq (E : FnA) (n n0 : Nat) (a0 a1 a2 : AV) (bx : Bx) : evK Try.prog md0 E 56 kp_r01_With n n0 c_r01_With ⟨[(0, a0), (1, a1), (2, a2)], bx⟩ (fun s => some (.normal, s)) (fun i s => some (.exit i, s)) = F_r01_With E n n0 a0 a1 a2 bx := by kernel_rfl

theorem E_r01_With (n : Nat) (a0 a1 a2 : AV) (bx : Bx) : evFn cx0 ext0 (n + 1) 36 [a0, a1, a2] bx = fin Try.prog [.tmp 6, .tmp 7] (F_r01_With (evFn cx0 ext0 n) n bx.length a0 a1 a2 bx) := by
  rw [evFn_eq2 (cx := cx0) (c := c_r01_With) rfl Try.func36 c_r01_With_eq (of_decide_eq_true (by kernel_rfl)) d_r01_With (of_decide_eq_true (by kernel_rfl))]
  exact congrArg (fin Try.prog [.tmp 6, .tmp 7]) (F_r01_With_eq (evFn cx0 ext0 n) n bx.length a0 a1 a2 bx)

/-- scupper/num.Count -/
def kp_num_Count : Option (List Nat) := some [0, 1, 4, 5, 6, 9, 10, 11]
noncomputable def c_num_Count : Code := Try.f38.body.getD .skip
noncomputable def L_num_Count_0 (_E : FnA) (_n _n0 : Nat) (s : S) : Option (Ex × S) :=
  (pv s.bx (binA Try.prog .lss 3 (get s.env 10) (get s.env 9))).bind fun r12 =>
  condA r12.1 ((pv r12.2 (binA Try.prog .quo 3 (get (prune kp_num_Count s.env) 10) (.v (Go.Value.int Go.IntKind.i64 8)))).bind fun r13 =>
  (pv r13.2 (indexAddrA Try.prog 47 (get (prune kp_num_Count (prune kp_num_Count s.env)) 0) r13.1)).bind fun r14 =>
  (pv r14.2 (loadA Try.prog 5 r14.2 r14.1)).bind fun r15 =>
  (pv r15.2 (binA Try.prog .rem 3 (get (prune kp_num_Count s.env) 10) (.v (Go.Value.int Go.IntKind.i64 8)))).bind fun r16 =>
  (pv r16.2 (binA Try.prog .shr 5 r15.1 r16.1)).bind fun r17 =>
  (pv r17.2 (binA Try.prog .and 5 r17.1 (.v (Go.Value.int Go.IntKind.u8 1)))).bind fun r18 =>
  (convA Try.prog r18.2 5 3 r18.1).bind fun r19 =>
  (pv r19.2 (binA Try.prog .add 3 (get (prune kp_num_Count (prune kp_num_Count s.env)) 5) r19.1)).bind fun r20 =>
  (pv r20.2 (binA Try.prog .add 3 (get (prune kp_num_Count (prune kp_num_Count (prune kp_num_Count s.env))) 10) (.v (Go.Value.int Go.IntKind.i64 1)))).bind fun r21 =>
  some (.normal, ⟨((10, r21.1) :: (5, r20.1) :: (6, (get (prune kp_num_Count s.env) 10)) :: (11, r12.1) :: (prune kp_num_Count (prune kp_num_Count (prune kp_num_Count (prune kp_num_Count s.env))))), r21.2⟩)) (some (.exit 0, ⟨((11, r12.1) :: (prune kp_num_Count s.env)), r12.2⟩))
noncomputable def B_num_Count_0 (_E : FnA) (_n _n0 : Nat) (x10 x9 x5 x4 x0 x1 : AV) (y : Bx) : Option (Ex × S) :=
  (pv y (binA Try.prog .lss 3 x10 x9)).bind fun r2 =>
  condA r2.1 ((pv r2.2 (binA Try.prog .quo 3 x10 (.v (Go.Value.int Go.IntKind.i64 8)))).bind fun r3 =>
  (pv r3.2 (indexAddrA Try.prog 47 x0 r3.1)).bind fun r4 =>
  (pv r4.2 (loadA Try.prog 5 r4.2 r4.1)).bind fun r5 =>
  (pv r5.2 (binA Try.prog .rem 3 x10 (.v (Go.Value.int Go.IntKind.i64 8)))).bind fun r6 =>
  (pv r6.2 (binA Try.prog .shr 5 r5.1 r6.1)).bind fun r7 =>
  (pv r7.2 (binA Try.prog .and 5 r7.1 (.v (Go.Value.int Go.IntKind.u8 1)))).bind fun r8 =>
  (convA Try.prog r8.2 5 3 r8.1).bind fun r9 =>
  (pv r9.2 (binA Try.prog .add 3 x5 r9.1)).bind fun r10 =>
  (pv r10.2 (binA Try.prog .add 3 x10 (.v (Go.Value.int Go.IntKind.i64 1)))).bind fun r11 =>
  some (.normal, ⟨[(10, r11.1), (5, r10.1), (6, x10), (11, r2.1), (10, x10), (9, x9), (5, x5), (4, x4), (0, x0), (1, x1)], r11.2⟩)) (some (.exit 0, ⟨[(11, r2.1), (10, x10), (9, x9), (5, x5), (4, x4), (0, x0), (1, x1)], r2.2⟩))
theorem L_num_Count_0_lit {E : FnA} {n n0 : Nat} {x10 x9 x5 x4 x0 x1 : AV} {y : Bx} {Q : Ex → S → Prop} (h : Ends (B_num_Count_0 E n n0 x10 x9 x5 x4 x0 x1 y) Q) : Ends (L_num_Count_0 E n n0 ⟨[(10, x10), (9, x9), (5, x5), (4, x4), (0, x0), (1, x1)], y⟩) Q := by
  rw [show L_num_Count_0 E n n0 ⟨[(10, x10), (9, x9), (5, x5), (4, x4), (0, x0), (1, x1)], y⟩ = B_num_Count_0 E n n0 x10 x9 x5 x4 x0 x1 y by kernel_rfl]
  exact h
noncomputable def K_num_Count_0 (_E : FnA) (_n _n0 : Nat) (t : S) : Option (Ex × S) :=
  some (.ret, ⟨((4, (get t.env 5)) :: (prune kp_num_Count t.env)), t.bx⟩)
noncomputable def X_num_Count_0 (_E : FnA) (_n _n0 : Nat) (i : Nat) (t : S) : Option (Ex × S) :=
  if i = 0 then some (.ret, ⟨((4, (get t.env 5)) :: (prune kp_num_Count t.env)), t.bx⟩) else some (.exit i, ⟨t.env, t.bx⟩)
noncomputable def X_num_Count_0_0 (_E : FnA) (_n _n0 : Nat) (x11 x10 x9 x5 x4 x0 x1 : AV) (y : Bx) : Option (Ex × S) :=
  some (.ret, ⟨[(4, x5), (11, x11), (10, x10), (9, x9), (5, x5), (4, x4), (0, x0), (1, x1)], y⟩)
theorem X_num_Count_0_0_lit {E : FnA} {n n0 : Nat} {x11 x10 x9 x5 x4 x0 x1 : AV} {y : Bx} {Q : Ex → S → Prop} (h : Ends (X_num_Count_0_0 E n n0 x11 x10 x9 x5 x4 x0 x1 y) Q) : Ends (X_num_Count_0 E n n0 0 ⟨[(11, x11), (10, x10), (9, x9), (5, x5), (4, x4), (0, x0), (1, x1)], y⟩) Q := by
  rw [show X_num_Count_0 E n n0 0 ⟨[(11, x11), (10, x10), (9, x9), (5, x5), (4, x4), (0, x0), (1, x1)], y⟩ = X_num_Count_0_0 E n n0 x11 x10 x9 x5 x4 x0 x1 y by kernel_rfl]
  exact h
noncomputable def F_num_Count (E : FnA) (n n0 : Nat) (a0 a1 : AV) (bx : Bx) : Option (Ex × S) :=
  (callA E md0 bx 43 [a0, a1]).bind fun r1 =>
  exitA (iter ⟨[(10, (.v (Go.Value.int Go.IntKind.i64 0))), (9, r1.1), (5, (.v (Go.Value.int Go.IntKind.i64 0))), (4, (.v (Go.Value.int Go.IntKind.i64 0))), (0, a0), (1, a1)], r1.2⟩ (L_num_Count_0 E n n0) n ⟨[(10, (.v (Go.Value.int Go.IntKind.i64 0))), (9, r1.1), (5, (.v (Go.Value.int Go.IntKind.i64 0))), (4, (.v (Go.Value.int Go.IntKind.i64 0))), (0, a0), (1, a1)], r1.2⟩) (K_num_Count_0 E n n0) (X_num_Count_0 E n n0)
theorem c_num_Count_eq : Try.f38.body = some c_num_Count := by kernel_rfl
theorem d_num_Count : drawsOk Try.prog md0 c_num_Count = true := by kernel_rfl
theorem F_num_Count_eq (E : FnA) (n n0 : Nat) (a0 a1 : AV) (bx : Bx) : evK Try.prog md0 E 27 kp_num_Count n n0 c_num_Count ⟨[(0, a0), (1, a1)], bx⟩ (fun s => some (.normal, s)) (fun i s => some (.exit i, s)) = F_num_Count E n n0 a0 a1 bx := by kernel_rfl

theorem E_num_Count (n : Nat) (a0 a1 : AV) (bx : Bx) : evFn cx0 ext0 (n + 1) 38 [a0, a1] bx = fin Try.prog [.tmp 4] (F_num_Count (evFn cx0 ext0 n) n bx.length a0 a1 bx) := by
  rw [evFn_eq2 (cx := cx0) (c := c_num_Count) rfl Try.func38 c_num_Count_eq (of_decide_eq_true (by kernel_rfl)) d_num_Count (of_decide_eq_true (by kernel_rfl))]
  exact congrArg (fin Try.prog [.tmp 4]) (F_num_Count_eq (evFn cx0 ext0 n) n bx.length a0 a1 bx)

/-- scupper/geom.Check -/
def kp_geom_Check : Option (List Nat) := some [0, 1, 2, 3, 27]
noncomputable def c_geom_Check : Code := Try.f40.body.getD .skip
noncomputable def F_geom_Check (E : FnA) (_n _n0 : Nat) (a0 : AV) (bx : Bx) : Option (Ex × S) :=
  (boxA bx a0).bind fun r1 =>
  (pv r1.2 (loadA Try.prog 25 r1.2 r1.1)).bind fun r2 =>
  (pv r2.2 (buildA Try.prog 25 [])).bind fun r3 =>
  (pv r3.2 (binA Try.prog .eql 25 r2.1 r3.1)).bind fun r4 =>
  (gsel false r4.2 (some ((.fn 47 [] []), r4.2)) r4.1).bind fun r5 =>
  (gsel false r5.2 (pv r5.2 (fieldAddrA Try.prog 25 r1.1 0)) r4.1).bind fun r6 =>
  (gsel false r6.2 (pv r6.2 (loadA Try.prog 3 r6.2 r6.1)) r4.1).bind fun r7 =>
  (gsel false r7.2 (callV E md0 r7.2 [r7.1, (.v (Go.Value.int Go.IntKind.i64 1)), (.v (Go.Value.int Go.IntKind.i64 8))] r5.1) r4.1).bind fun r8 =>
  (gsel false r8.2 (pv r8.2 (unA .not r8.1)) r4.1).bind fun r9 =>
  (pv r9.2 (pickA r4.1 (.v (Go.Value.bool true)) r9.1)).bind fun r10 =>
  (gsel false r10.2 (some ((.fn 47 [] []), r10.2)) r10.1).bind fun r11 =>
  (gsel false r11.2 (pv r11.2 (fieldAddrA Try.prog 25 r1.1 1)) r10.1).bind fun r12 =>
  (gsel false r12.2 (pv r12.2 (loadA Try.prog 3 r12.2 r12.1)) r10.1).bind fun r13 =>
  (gsel false r13.2 (callV E md0 r13.2 [r13.1, (.v (Go.Value.int Go.IntKind.i64 1)), (.v (Go.Value.int Go.IntKind.i64 8))] r11.1) r10.1).bind fun r14 =>
  (gsel false r14.2 (pv r14.2 (unA .not r14.1)) r10.1).bind fun r15 =>
  (pv r15.2 (pickA r10.1 (.v (Go.Value.bool true)) r15.1)).bind fun r16 =>
  (gsel false r16.2 (some ((.fn 47 [] []), r16.2)) r16.1).bind fun r17 =>
  (gsel false r17.2 (pv r17.2 (fieldAddrA Try.prog 25 r1.1 2)) r16.1).bind fun r18 =>
  (gsel false r18.2 (pv r18.2 (loadA Try.prog 3 r18.2 r18.1)) r16.1).bind fun r19 =>
  (gsel false r19.2 (callV E md0 r19.2 [r19.1, (.v (Go.Value.int Go.IntKind.i64 4)), (.v (Go.Value.int Go.IntKind.i64 128))] r17.1) r16.1).bind fun r20 =>
  (gsel false r20.2 (pv r20.2 (unA .not r20.1)) r16.1).bind fun r21 =>
  (pv r21.2 (pickA r16.1 (.v (Go.Value.bool true)) r21.1)).bind fun r22 =>
  condA r22.1 (some (.ret, ⟨[(2, (.v (Go.Value.int Go.IntKind.i64 2))), (27, r22.1), (3, (.fn 47 [] [])), (2, (.v (Go.Value.int Go.IntKind.i64 0))), (1, r1.1), (0, a0)], r22.2⟩)) (some (.ret, ⟨[(2, (.v (Go.Value.int Go.IntKind.i64 0))), (27, r22.1), (3, (.fn 47 [] [])), (2, (.v (Go.Value.int Go.IntKind.i64 0))), (1, r1.1), (0, a0)], r22.2⟩))
theorem c_geom_Check_eq : Try.f40.body = some c_geom_Check := by kernel_rfl
theorem d_geom_Check : drawsOk Try.prog md0 c_geom_Check = true := by kernel_rfl
theorem F_geom_Check_eq (E : FnA) (n n0 : Nat) (a0 : AV) (bx : Bx) : evK Try.prog md0 E 28 kp_geom_Check n n0 c_geom_Check ⟨[(0, a0)], bx⟩ (fun s => some (.normal, s)) (fun i s => some (.exit i, s)) = F_geom_Check E n n0 a0 bx := by kernel_rfl

theorem E_geom_Check (n : Nat) (a0 : AV) (bx : Bx) : evFn cx0 ext0 (n + 1) 40 [a0] bx = fin Try.prog [.tmp 2] (F_geom_Check (evFn cx0 ext0 n) n bx.length a0 bx) := by
  rw [evFn_eq2 (cx := cx0) (c := c_geom_Check) rfl Try.func40 c_geom_Check_eq (of_decide_eq_true (by kernel_rfl)) d_geom_Check (of_decide_eq_true (by kernel_rfl))]
  exact congrArg (fin Try.prog [.tmp 2]) (F_geom_Check_eq (evFn cx0 ext0 n) n bx.length a0 bx)

/-- scupper/scupperref06.Check -/
def kp_r06_Check : Option (List Nat) := some [0, 1, 2, 30]
noncomputable def c_r06_Check : Code := Try.f42.body.getD .skip
noncomputable def F_r06_Check (_E : FnA) (_n _n0 : Nat) (a0 : AV) (bx : Bx) : Option (Ex × S) :=
  (boxA bx a0).bind fun r1 =>
  (pv r1.2 (fieldAddrA Try.prog 25 r1.1 0)).bind fun r2 =>
  (pv r2.2 (loadA Try.prog 3 r2.2 r2.1)).bind fun r3 =>
  (pv r3.2 (binA Try.prog .lss 3 r3.1 (.v (Go.Value.int Go.IntKind.i64 1)))).bind fun r4 =>
  (gsel false r4.2 (pv r4.2 (fieldAddrA Try.prog 25 r1.1 0)) r4.1).bind fun r5 =>
  (gsel false r5.2 (pv r5.2 (loadA Try.prog 3 r5.2 r5.1)) r4.1).bind fun r6 =>
  (gsel false r6.2 (pv r6.2 (binA Try.prog .gtr 3 r6.1 (.v (Go.Value.int Go.IntKind.i64 8)))) r4.1).bind fun r7 =>
  (pv r7.2 (pickA r4.1 (.v (Go.Value.bool true)) r7.1)).bind fun r8 =>
  (gsel false r8.2 (pv r8.2 (fieldAddrA Try.prog 25 r1.1 1)) r8.1).bind fun r9 =>
  (gsel false r9.2 (pv r9.2 (loadA Try.prog 3 r9.2 r9.1)) r8.1).bind fun r10 =>
  (gsel false r10.2 (pv r10.2 (binA Try.prog .lss 3 r10.1 (.v (Go.Value.int Go.IntKind.i64 1)))) r8.1).bind fun r11 =>
  (pv r11.2 (pickA r8.1 (.v (Go.Value.bool true)) r11.1)).bind fun r12 =>
  (gsel false r12.2 (pv r12.2 (fieldAddrA Try.prog 25 r1.1 1)) r12.1).bind fun r13 =>
  (gsel false r13.2 (pv r13.2 (loadA Try.prog 3 r13.2 r13.1)) r12.1).bind fun r14 =>
  (gsel false r14.2 (pv r14.2 (binA Try.prog .gtr 3 r14.1 (.v (Go.Value.int Go.IntKind.i64 8)))) r12.1).bind fun r15 =>
  (pv r15.2 (pickA r12.1 (.v (Go.Value.bool true)) r15.1)).bind fun r16 =>
  (gsel false r16.2 (pv r16.2 (fieldAddrA Try.prog 25 r1.1 2)) r16.1).bind fun r17 =>
  (gsel false r17.2 (pv r17.2 (loadA Try.prog 3 r17.2 r17.1)) r16.1).bind fun r18 =>
  (gsel false r18.2 (pv r18.2 (binA Try.prog .lss 3 r18.1 (.v (Go.Value.int Go.IntKind.i64 4)))) r16.1).bind fun r19 =>
  (pv r19.2 (pickA r16.1 (.v (Go.Value.bool true)) r19.1)).bind fun r20 =>
  (gsel false r20.2 (pv r20.2 (fieldAddrA Try.prog 25 r1.1 2)) r20.1).bind fun r21 =>
  (gsel false r21.2 (pv r21.2 (loadA Try.prog 3 r21.2 r21.1)) r20.1).bind fun r22 =>
  (gsel false r22.2 (pv r22.2 (binA Try.prog .gtr 3 r22.1 (.v (Go.Value.int Go.IntKind.i64 128)))) r20.1).bind fun r23 =>
  (pv r23.2 (pickA r20.1 (.v (Go.Value.bool true)) r23.1)).bind fun r24 =>
  condA r24.1 (some (.ret, ⟨[(2, (.v (Go.Value.int Go.IntKind.i64 2))), (30, r24.1), (2, (.v (Go.Value.int Go.IntKind.i64 0))), (1, r1.1), (0, a0)], r24.2⟩)) (some (.ret, ⟨[(2, (.v (Go.Value.int Go.IntKind.i64 0))), (30, r24.1), (2, (.v (Go.Value.int Go.IntKind.i64 0))), (1, r1.1), (0, a0)], r24.2⟩))
theorem c_r06_Check_eq : Try.f42.body = some c_r06_Check := by kernel_rfl
theorem d_r06_Check : drawsOk Try.prog md0 c_r06_Check = true := by kernel_rfl
theorem F_r06_Check_eq (E : FnA) (n n0 : Nat) (a0 : AV) (bx : Bx) : evK Try.prog md0 E 31 kp_r06_Check n n0 c_r06_Check ⟨[(0, a0)], bx⟩ (fun s => some (.normal, s)) (fun i s => some (.exit i, s)) = F_r06_Check E n n0 a0 bx := by kernel_rfl

theorem E_r06_Check (n : Nat) (a0 : AV) (bx : Bx) : evFn cx0 ext0 (n + 1) 42 [a0] bx = fin Try.prog [.tmp 2] (F_r06_Check (evFn cx0 ext0 n) n bx.length a0 bx) := by
  rw [evFn_eq2 (cx := cx0) (c := c_r06_Check) rfl Try.func42 c_r06_Check_eq (of_decide_eq_true (by kernel_rfl)) d_r06_Check (of_decide_eq_true (by kernel_rfl))]
  exact congrArg (fin Try.prog [.tmp 2]) (F_r06_Check_eq (evFn cx0 ext0 n) n bx.length a0 bx)

/-- scupper/num.some -/
def kp_num_some : Option (List Nat) := some [0, 1, 4]
noncomputable def c_num_some : Code := Try.f43.body.getD .skip
noncomputable def F_num_some (_E : FnA) (_n _n0 : Nat) (a0 a1 : AV) (bx : Bx) : Option (Ex × S) :=
  (pv bx (lenA Try.prog 47 a0)).bind fun r1 =>
  (pv r1.2 (binA Try.prog .mul 3 (.v (Go.Value.int Go.IntKind.i64 8)) r1.1)).bind fun r2 =>
  (pv r2.2 (minL false a1 [r2.1])).bind fun r3 =>
  (pv r3.2 (minL true (.v (Go.Value.int Go.IntKind.i64 0)) [r3.1])).bind fun r4 =>
  some (.ret, ⟨[(4, r4.1), (4, (.v (Go.Value.int Go.IntKind.i64 0))), (0, a0), (1, a1)], r4.2⟩)
theorem c_num_some_eq : Try.f43.body = some c_num_some := by kernel_rfl
theorem d_num_some : drawsOk Try.prog md0 c_num_some = true := by kernel_rfl
theorem F_num_some_eq (E : FnA) (n n0 : Nat) (a0 a1 : AV) (bx : Bx) : evK Try.prog md0 E 11 kp_num_some n n0 c_num_some ⟨[(0, a0), (1, a1)], bx⟩ (fun s => some (.normal, s)) (fun i s => some (.exit i, s)) = F_num_some E n n0 a0 a1 bx := by kernel_rfl

theorem E_num_some (n : Nat) (a0 a1 : AV) (bx : Bx) : evFn cx0 ext0 (n + 1) 43 [a0, a1] bx = fin Try.prog [.tmp 4] (F_num_some (evFn cx0 ext0 n) n bx.length a0 a1 bx) := by
  rw [evFn_eq2 (cx := cx0) (c := c_num_some) rfl Try.func43 c_num_some_eq (of_decide_eq_true (by kernel_rfl)) d_num_some (of_decide_eq_true (by kernel_rfl))]
  exact congrArg (fin Try.prog [.tmp 4]) (F_num_some_eq (evFn cx0 ext0 n) n bx.length a0 a1 bx)

/-- scupper/num.bit -/
def kp_num_bit : Option (List Nat) := some [0, 1, 4, 5, 6, 15]
noncomputable def c_num_bit : Code := Try.f44.body.getD .skip
noncomputable def F_num_bit (_E : FnA) (_n _n0 : Nat) (a0 a1 : AV) (bx : Bx) : Option (Ex × S) :=
  (pv bx (binA Try.prog .lss 3 a1 (.v (Go.Value.int Go.IntKind.i64 0)))).bind fun r1 =>
  (gsel false r1.2 (some (a1, r1.2)) r1.1).bind fun r2 =>
  (gsel false r2.2 (pv r2.2 (binA Try.prog .quo 3 r2.1 (.v (Go.Value.int Go.IntKind.i64 8)))) r1.1).bind fun r3 =>
  (gsel false r3.2 (some (a0, r3.2)) r1.1).bind fun r4 =>
  (gsel false r4.2 (pv r4.2 (lenA Try.prog 47 r4.1)) r1.1).bind fun r5 =>
  (gsel false r5.2 (pv r5.2 (binA Try.prog .geq 3 r3.1 r5.1)) r1.1).bind fun r6 =>
  (pv r6.2 (pickA r1.1 (.v (Go.Value.bool true)) r6.1)).bind fun r7 =>
  condA r7.1 (some (.ret, ⟨[(6, (.v (Go.Value.int Go.IntKind.i64 2))), (5, (.v (Go.Value.int Go.IntKind.u8 0))), (4, (.v (Go.Value.int Go.IntKind.i64 0))), (15, r7.1), (6, (.v (Go.Value.int Go.IntKind.i64 0))), (5, (.v (Go.Value.int Go.IntKind.u8 0))), (4, (.v (Go.Value.int Go.IntKind.i64 0))), (0, a0), (1, a1)], r7.2⟩)) ((pv r7.2 (binA Try.prog .quo 3 a1 (.v (Go.Value.int Go.IntKind.i64 8)))).bind fun r8 =>
  (pv r8.2 (binA Try.prog .rem 3 a1 (.v (Go.Value.int Go.IntKind.i64 8)))).bind fun r9 =>
  (pv r9.2 (binA Try.prog .shl 5 (.v (Go.Value.int Go.IntKind.u8 1)) r9.1)).bind fun r10 =>
  some (.ret, ⟨[(6, (.v (Go.Value.int Go.IntKind.i64 0))), (5, r10.1), (4, r8.1), (15, r7.1), (6, (.v (Go.Value.int Go.IntKind.i64 0))), (5, (.v (Go.Value.int Go.IntKind.u8 0))), (4, (.v (Go.Value.int Go.IntKind.i64 0))), (0, a0), (1, a1)], r10.2⟩))
theorem c_num_bit_eq : Try.f44.body = some c_num_bit := by kernel_rfl
theorem d_num_bit : drawsOk Try.prog md0 c_num_bit = true := by kernel_rfl
theorem F_num_bit_eq (E : FnA) (n n0 : Nat) (a0 a1 : AV) (bx : Bx) : evK Try.prog md0 E 21 kp_num_bit n n0 c_num_bit ⟨[(0, a0), (1, a1)], bx⟩ (fun s => some (.normal, s)) (fun i s => some (.exit i, s)) = F_num_bit E n n0 a0 a1 bx := by kernel_rfl

theorem E_num_bit (n : Nat) (a0 a1 : AV) (bx : Bx) : evFn cx0 ext0 (n + 1) 44 [a0, a1] bx = fin Try.prog [.tmp 4, .tmp 5, .tmp 6] (F_num_bit (evFn cx0 ext0 n) n bx.length a0 a1 bx) := by
  rw [evFn_eq2 (cx := cx0) (c := c_num_bit) rfl Try.func44 c_num_bit_eq (of_decide_eq_true (by kernel_rfl)) d_num_bit (of_decide_eq_true (by kernel_rfl))]
  exact congrArg (fin Try.prog [.tmp 4, .tmp 5, .tmp 6]) (F_num_bit_eq (evFn cx0 ext0 n) n bx.length a0 a1 bx)

/-- slices.Clone[[]byte,byte] -/
def kp_slices_Clone_byte_byte : Option (List Nat) := some [0, 2, 4]
noncomputable def c_slices_Clone_byte_byte : Code := Try.f45.body.getD .skip
noncomputable def F_slices_Clone_byte_byte (_E : FnA) (_n n0 : Nat) (a0 : AV) (bx : Bx) : Option (Ex × S) :=
  (some (AV.bsl (List.length bx) 0 0 0, bx ++ [[]])).bind fun r1 =>
  (pv r1.2 (binA Try.prog .eql 47 a0 (.v (Go.Value.slice none 0 0)))).bind fun r2 =>
  condA r2.1 ((some (AV.bsl (List.length r2.2) 0 0 0, r2.2 ++ [[]])).bind fun r3 =>
  some (.ret, ⟨[(2, r3.1), (4, r2.1), (2, r1.1), (0, a0)], r3.2⟩)) ((buildSliceA Try.prog r2.2 47 0 []).bind fun r4 =>
  (appA Try.prog n0 r4.2 47 r4.1 a0).bind fun r5 =>
  some (.ret, ⟨[(2, r5.1), (4, (r5.2.1 r2.1)), (2, (r5.2.1 r1.1)), (0, (r5.2.1 a0))], r5.2.2⟩))
theorem c_slices_Clone_byte_byte_eq : Try.f45.body = some c_slices_Clone_byte_byte := by kernel_rfl
theorem d_slices_Clone_byte_byte : drawsOk Try.prog md0 c_slices_Clone_byte_byte = true := by kernel_rfl
theorem F_slices_Clone_byte_byte_eq (E : FnA) (n n0 : Nat) (a0 : AV) (bx : Bx) : evK Try.prog md0 E 8 kp_slices_Clone_byte_byte n n0 c_slices_Clone_byte_byte ⟨[(0, a0)], bx⟩ (fun s => some (.normal, s)) (fun i s => some (.exit i, s)) = F_slices_Clone_byte_byte E n n0 a0 bx := by kernel_rfl

theorem E_slices_Clone_byte_byte (n : Nat) (a0 : AV) (bx : Bx) : evFn cx0 ext0 (n + 1) 45 [a0] bx = fin Try.prog [.tmp 2] (F_slices_Clone_byte_byte (evFn cx0 ext0 n) n bx.length a0 bx) := by
  rw [evFn_eq2 (cx := cx0) (c := c_slices_Clone_byte_byte) rfl Try.func45 c_slices_Clone_byte_byte_eq (of_decide_eq_true (by kernel_rfl)) d_slices_Clone_byte_byte (of_decide_eq_true (by kernel_rfl))]
  exact congrArg (fin Try.prog [.tmp 2]) (F_slices_Clone_byte_byte_eq (evFn cx0 ext0 n) n bx.length a0 bx)

/-- scupper/scupperref01.power -/
def kp_r01_power : Option (List Nat) := some [0, 2, 3, 4, 7]
noncomputable def c_r01_power : Code := Try.f46.body.getD .skip
noncomputable def L_r01_power_0 (_E : FnA) (_n _n0 : Nat) (s : S) : Option (Ex × S) :=
  (pv s.bx (binA Try.prog .lss 3 (get s.env 4) (get s.env 0))).bind fun r4 =>
  condA r4.1 ((pv r4.2 (binA Try.prog .mul 3 (.v (Go.Value.int Go.IntKind.i64 2)) (get (prune kp_r01_power s.env) 3))).bind fun r5 =>
  (pv r5.2 (binA Try.prog .add 3 (get (prune kp_r01_power (prune kp_r01_power s.env)) 4) (.v (Go.Value.int Go.IntKind.i64 1)))).bind fun r6 =>
  some (.normal, ⟨((4, r6.1) :: (3, r5.1) :: (7, r4.1) :: (prune kp_r01_power (prune kp_r01_power (prune kp_r01_power s.env)))), r6.2⟩)) (some (.exit 0, ⟨((7, r4.1) :: (prune kp_r01_power s.env)), r4.2⟩))
noncomputable def B_r01_power_0 (_E : FnA) (_n _n0 : Nat) (x4 x3 x2 x0 : AV) (y : Bx) : Option (Ex × S) :=
  (pv y (binA Try.prog .lss 3 x4 x0)).bind fun r1 =>
  condA r1.1 ((pv r1.2 (binA Try.prog .mul 3 (.v (Go.Value.int Go.IntKind.i64 2)) x3)).bind fun r2 =>
  (pv r2.2 (binA Try.prog .add 3 x4 (.v (Go.Value.int Go.IntKind.i64 1)))).bind fun r3 =>
  some (.normal, ⟨[(4, r3.1), (3, r2.1), (7, r1.1), (4, x4), (3, x3), (2, x2), (0, x0)], r3.2⟩)) (some (.exit 0, ⟨[(7, r1.1), (4, x4), (3, x3), (2, x2), (0, x0)], r1.2⟩))
theorem L_r01_power_0_lit {E : FnA} {n n0 : Nat} {x4 x3 x2 x0 : AV} {y : Bx} {Q : Ex → S → Prop} (h : Ends (B_r01_power_0 E n n0 x4 x3 x2 x0 y) Q) : Ends (L_r01_power_0 E n n0 ⟨[(4, x4), (3, x3), (2, x2), (0, x0)], y⟩) Q := by
  rw [show L_r01_power_0 E n n0 ⟨[(4, x4), (3, x3), (2, x2), (0, x0)], y⟩ = B_r01_power_0 E n n0 x4 x3 x2 x0 y by kernel_rfl]
  exact h
noncomputable def K_r01_power_0 (_E : FnA) (_n _n0 : Nat) (t : S) : Option (Ex × S) :=
  some (.ret, ⟨((2, (get t.env 3)) :: (prune kp_r01_power t.env)), t.bx⟩)
noncomputable def X_r01_power_0 (_E : FnA) (_n _n0 : Nat) (i : Nat) (t : S) : Option (Ex × S) :=
  if i = 0 then some (.ret, ⟨((2, (get t.env 3)) :: (prune kp_r01_power t.env)), t.bx⟩) else some (.exit i, ⟨t.env, t.bx⟩)
noncomputable def X_r01_power_0_0 (_E : FnA) (_n _n0 : Nat) (x7 x4 x3 x2 x0 : AV) (y : Bx) : Option (Ex × S) :=
  some (.ret, ⟨[(2, x3), (7, x7), (4, x4), (3, x3), (2, x2), (0, x0)], y⟩)
theorem X_r01_power_0_0_lit {E : FnA} {n n0 : Nat} {x7 x4 x3 x2 x0 : AV} {y : Bx} {Q : Ex → S → Prop} (h : Ends (X_r01_power_0_0 E n n0 x7 x4 x3 x2 x0 y) Q) : Ends (X_r01_power_0 E n n0 0 ⟨[(7, x7), (4, x4), (3, x3), (2, x2), (0, x0)], y⟩) Q := by
  rw [show X_r01_power_0 E n n0 0 ⟨[(7, x7), (4, x4), (3, x3), (2, x2), (0, x0)], y⟩ = X_r01_power_0_0 E n n0 x7 x4 x3 x2 x0 y by kernel_rfl]
  exact h
noncomputable def F_r01_power (E : FnA) (n n0 : Nat) (a0 : AV) (bx : Bx) : Option (Ex × S) :=
  exitA (iter ⟨[(4, (.v (Go.Value.int Go.IntKind.i64 0))), (3, (.v (Go.Value.int Go.IntKind.i64 1))), (2, (.v (Go.Value.int Go.IntKind.i64 0))), (0, a0)], bx⟩ (L_r01_power_0 E n n0) n ⟨[(4, (.v (Go.Value.int Go.IntKind.i64 0))), (3, (.v (Go.Value.int Go.IntKind.i64 1))), (2, (.v (Go.Value.int Go.IntKind.i64 0))), (0, a0)], bx⟩) (K_r01_power_0 E n n0) (X_r01_power_0 E n n0)
theorem c_r01_power_eq : Try.f46.body = some c_r01_power := by kernel_rfl
theorem d_r01_power : drawsOk Try.prog md0 c_r01_power = true := by kernel_rfl
theorem F_r01_power_eq (E : FnA) (n n0 : Nat) (a0 : AV) (bx : Bx) : evK Try.prog md0 E 13 kp_r01_power n n0 c_r01_power ⟨[(0, a0)], bx⟩ (fun s => some (.normal, s)) (fun i s => some (.exit i, s)) = F_r01_power E n n0 a0 bx := by kernel_rfl

theorem E_r01_power (n : Nat) (a0 : AV) (bx : Bx) : evFn cx0 ext0 (n + 1) 46 [a0] bx = fin Try.prog [.tmp 2] (F_r01_power (evFn cx0 ext0 n) n bx.length a0 bx) := by
  rw [evFn_eq2 (cx := cx0) (c := c_r01_power) rfl Try.func46 c_r01_power_eq (of_decide_eq_true (by kernel_rfl)) d_r01_power (of_decide_eq_true (by kernel_rfl))]
  exact congrArg (fin Try.prog [.tmp 2]) (F_r01_power_eq (evFn cx0 ext0 n) n bx.length a0 bx)

/-- scupper/geom.Check$1 -/
def kp_geom_Check_1 : Option (List Nat) := some [0, 1, 2, 6]
noncomputable def c_geom_Check_1 : Code := Try.f47.body.getD .skip
noncomputable def F_geom_Check_1 (_E : FnA) (_n _n0 : Nat) (a0 a1 a2 : AV) (bx : Bx) : Option (Ex × S) :=
  (pv bx (binA Try.prog .geq 3 a0 a1)).bind fun r1 =>
  (gsel true r1.2 (some (a0, r1.2)) r1.1).bind fun r2 =>
  (gsel true r2.2 (some (a2, r2.2)) r1.1).bind fun r3 =>
  (gsel true r3.2 (pv r3.2 (binA Try.prog .leq 3 r2.1 r3.1)) r1.1).bind fun r4 =>
  (pv r4.2 (pickA r1.1 r4.1 (.v (Go.Value.bool false)))).bind fun r5 =>
  some (.ret, ⟨[(6, r5.1), (6, (.v (Go.Value.bool false))), (0, a0), (1, a1), (2, a2)], r5.2⟩)
theorem c_geom_Check_1_eq : Try.f47.body = some c_geom_Check_1 := by kernel_rfl
theorem d_geom_Check_1 : drawsOk Try.prog md0 c_geom_Check_1 = true := by kernel_rfl
theorem F_geom_Check_1_eq (E : FnA) (n n0 : Nat) (a0 a1 a2 : AV) (bx : Bx) : evK Try.prog md0 E 15 kp_geom_Check_1 n n0 c_geom_Check_1 ⟨[(0, a0), (1, a1), (2, a2)], bx⟩ (fun s => some (.normal, s)) (fun i s => some (.exit i, s)) = F_geom_Check_1 E n n0 a0 a1 a2 bx := by kernel_rfl

theorem E_geom_Check_1 (n : Nat) (a0 a1 a2 : AV) (bx : Bx) : evFn cx0 ext0 (n + 1) 47 [a0, a1, a2] bx = fin Try.prog [.tmp 6] (F_geom_Check_1 (evFn cx0 ext0 n) n bx.length a0 a1 a2 bx) := by
  rw [evFn_eq2 (cx := cx0) (c := c_geom_Check_1) rfl Try.func47 c_geom_Check_1_eq (of_decide_eq_true (by kernel_rfl)) d_geom_Check_1 (of_decide_eq_true (by kernel_rfl))]
  exact congrArg (fin Try.prog [.tmp 6]) (F_geom_Check_1_eq (evFn cx0 ext0 n) n bx.length a0 a1 a2 bx)

end Go.Sy.Pre
