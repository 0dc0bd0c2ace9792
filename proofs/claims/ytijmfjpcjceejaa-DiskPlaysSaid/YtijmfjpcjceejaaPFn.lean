/-
  What disk's functions read as, but for Flush and Crash; no conditions.
-/
import Derived.Test.YtijmfjpcjceejaaSyStep
import Derived.Test.YtijmfjpcjceejaaPfNil
import Derived.Test.YtijmfjpcjceejaaProg
import Derived.KernelRfl
namespace Go.Sy.Pr0
open Go.Proofs
def kpT : FuncId → Option (List Nat)
  | 7 => some [0, 1, 4, 5, 11]
  | 8 => some [0, 1, 2, 5, 6, 7, 12]
  | 11 => some [0, 1, 4, 5, 6, 11]
  | 13 => some [0, 1, 4, 8]
  | 14 => some [0, 1, 2, 5, 6, 7, 12]
  | 15 => some [0, 1, 4, 5, 8]
  | 16 => some [0, 2, 4]
  | 17 => some [0, 2, 4]
  | 18 => some [0, 2, 4]
  | 25 => some [0, 1, 4, 5, 10]
  | 26 => some [0, 1, 4, 5, 14]
  | 27 => some [0, 1, 4, 5, 8]
  | 28 => some [0, 2, 4]
  | _ => none
def md_disk_Disk_Write : FuncId → Md
  | 25 => .objK
  | _ => .frozen
def md_disk_Disk_Force : FuncId → Md
  | 25 => .objK
  | _ => .frozen
def md_disk_Disk_use : FuncId → Md
  | 40 => .objK
  | _ => .frozen
def md_disk_Disk_Read : FuncId → Md
  | 26 => .objK
  | _ => .frozen
def md_disk_Disk_Image : FuncId → Md
  | 28 => .boxed
  | _ => .frozen
def mdT : FuncId → FuncId → Md
  | 8 => md_disk_Disk_Write
  | 14 => md_disk_Disk_Force
  | 25 => md_disk_Disk_use
  | 11 => md_disk_Disk_Read
  | 18 => md_disk_Disk_Image
  | _ => md0
noncomputable def cx0 : Cx := { P := Try.prog, md := mdT, kp := kpT }
noncomputable def ext0 : FnA := extN
theorem ext0_ok (f : FuncId) (args : List AV) (bx : Bx) (r : AV) (bx' : Bx) (h : ext0 f args bx = some (r, bx')) : Sound cx0.P f args bx r bx' := extN_ok f args bx r bx' h
/-- scupper/disk.New -/
def kp_disk_New : Option (List Nat) := some [0, 1, 4, 5, 11]
noncomputable def c_disk_New : Code := Try.f7.body.getD .skip
noncomputable def F_disk_New (_E : FnA) (_n _n0 : Nat) (a0 a1 : AV) (bx : Bx) : Option (Ex × S) :=
  (pv bx (binA Try.prog .lss 3 a0 (.v (Go.Value.int Go.IntKind.i64 1)))).bind fun r1 =>
  (gsel false r1.2 (some (a0, r1.2)) r1.1).bind fun r2 =>
  (gsel false r2.2 (pv r2.2 (binA Try.prog .gtr 3 r2.1 (.v (Go.Value.int Go.IntKind.i64 2048)))) r1.1).bind fun r3 =>
  (pv r3.2 (pickA r1.1 (.v (Go.Value.bool true)) r3.1)).bind fun r4 =>
  condA r4.1 (some (.ret, ⟨[(5, (.v (Go.Value.int Go.IntKind.i64 2))), (4, (.v (Go.Value.pointer none))), (11, r4.1), (5, (.v (Go.Value.int Go.IntKind.i64 0))), (4, (.v (Go.Value.pointer none))), (0, a0), (1, a1)], r4.2⟩)) ((makeSliceA Try.prog r4.2 35 a0 a0).bind fun r5 =>
  (some (AV.mp (List.length r5.2), r5.2 ++ [[.tup [.v (.int .i64 0)]]])).bind fun r6 =>
  (pv r6.2 (buildA Try.prog 63 [(0, a1), (1, r5.1), (2, r6.1)])).bind fun r7 =>
  (boxA r7.2 r7.1).bind fun r8 =>
  some (.ret, ⟨[(5, (.v (Go.Value.int Go.IntKind.i64 0))), (4, r8.1), (11, r4.1), (5, (.v (Go.Value.int Go.IntKind.i64 0))), (4, (.v (Go.Value.pointer none))), (0, a0), (1, a1)], r8.2⟩))
theorem c_disk_New_eq : Try.f7.body = some c_disk_New := by kernel_rfl
theorem d_disk_New : drawsOk Try.prog md0 c_disk_New = true := by kernel_rfl
theorem F_disk_New_eq (E : FnA) (n n0 : Nat) (a0 a1 : AV) (bx : Bx) : evK Try.prog md0 E 18 kp_disk_New n n0 c_disk_New ⟨[(0, a0), (1, a1)], bx⟩ (fun s => some (.normal, s)) (fun i s => some (.exit i, s)) = F_disk_New E n n0 a0 a1 bx := by kernel_rfl

theorem E_disk_New (n : Nat) (a0 a1 : AV) (bx : Bx) : evFn cx0 ext0 (n + 1) 7 [a0, a1] bx = fin Try.prog [.tmp 4, .tmp 5] (F_disk_New (evFn cx0 ext0 n) n bx.length a0 a1 bx) := by
  rw [evFn_eq2 (cx := cx0) (c := c_disk_New) rfl Try.func7 c_disk_New_eq (of_decide_eq_true (by kernel_rfl)) d_disk_New (of_decide_eq_true (by kernel_rfl))]
  exact congrArg (fin Try.prog [.tmp 4, .tmp 5]) (F_disk_New_eq (evFn cx0 ext0 n) n bx.length a0 a1 bx)

/-- (*scupper/disk.Disk).Write -/
def kp_disk_Disk_Write : Option (List Nat) := some [0, 1, 2, 5, 6, 7, 12]
noncomputable def c_disk_Disk_Write : Code := Try.f8.body.getD .skip
noncomputable def F_disk_Disk_Write (E : FnA) (_n n0 : Nat) (a0 a1 a2 : AV) (bx : Bx) : Option (Ex × S) :=
  (boxA bx a2).bind fun r1 =>
  (callA E md_disk_Disk_Write r1.2 25 [a0, a1]).bind fun r2 =>
  (pv r2.2 (binA Try.prog .eql 26 r2.1 (.v (Go.Value.int Go.IntKind.i64 0)))).bind fun r3 =>
  condA r3.1 ((pv r3.2 (nilA a0)).bind fun r4 =>
  (pv r4.2 (fieldAddrA Try.prog 63 r4.1 2)).bind fun r5 =>
  (pv r5.2 (loadA Try.prog 61 r5.2 r5.1)).bind fun r6 =>
  (pv r6.2 (nilA a0)).bind fun r7 =>
  (pv r7.2 (fieldAddrA Try.prog 63 r7.1 2)).bind fun r8 =>
  (pv r8.2 (loadA Try.prog 61 r8.2 r8.1)).bind fun r9 =>
  (pv r9.2 (lookA Try.prog r9.2 61 r9.1 a1 false)).bind fun r10 =>
  (pv r10.2 (loadA Try.prog 32 r10.2 r1.1)).bind fun r11 =>
  (guardB (apartV (AV.bp (List.length r11.2) 0) r5.1 && (apartV (AV.bp (List.length r11.2) 0) r8.1 && (apartV (AV.bp (List.length r11.2) 0) r9.1 && true)))).bind fun _ =>
  (buildSliceA Try.prog r11.2 35 1 [(0, r11.1)]).bind fun r12 =>
  (guardB (apartV (apAd r12.2 r10.1) r5.1 && true)).bind fun _ =>
  (appA Try.prog n0 r12.2 35 r10.1 r12.1).bind fun r13 =>
  (guardB (freeA r10.1 a0 && (freeA r10.1 a0 && (freeA r10.1 a0 && (freeA r10.1 r4.1 && (freeA r10.1 r4.1 && (freeA r10.1 r5.1 && (freeA r10.1 r5.1 && (freeA r10.1 r6.1 && (freeA r10.1 a1 && (freeA r10.1 a1 && true))))))))))).bind fun _ =>
  (upV Try.prog 61 r13.2.2 (r13.2.1 r6.1) (r13.2.1 a1) r13.1).bind fun r14 =>
  (pv r14.2 (nilA (r13.2.1 a0))).bind fun r15 =>
  (pv r15.2 (fieldAddrA Try.prog 63 r15.1 3)).bind fun r16 =>
  (pv r16.2 (loadA Try.prog 3 r16.2 r16.1)).bind fun r17 =>
  (pv r17.2 (binA Try.prog .add 3 r17.1 (.v (Go.Value.int Go.IntKind.i64 1)))).bind fun r18 =>
  (pv r18.2 (nilA (r13.2.1 a0))).bind fun r19 =>
  (pv r19.2 (fieldAddrA Try.prog 63 r19.1 3)).bind fun r20 =>
  (stA Try.prog 3 r20.2 r20.1 r18.1).bind fun r21 =>
  some (.ret, ⟨[(6, (r13.2.1 r2.1)), (12, (r13.2.1 r3.1)), (7, (r13.2.1 r2.1)), (6, (r13.2.1 (.v (Go.Value.int Go.IntKind.i64 0)))), (5, (r13.2.1 r1.1)), (0, (r13.2.1 a0)), (1, (r13.2.1 a1)), (2, (r13.2.1 a2))], r21.2⟩)) (some (.ret, ⟨[(6, r2.1), (12, r3.1), (7, r2.1), (6, (.v (Go.Value.int Go.IntKind.i64 0))), (5, r1.1), (0, a0), (1, a1), (2, a2)], r3.2⟩))
theorem c_disk_Disk_Write_eq : Try.f8.body = some c_disk_Disk_Write := by kernel_rfl
theorem d_disk_Disk_Write : drawsOk Try.prog md_disk_Disk_Write c_disk_Disk_Write = true := by kernel_rfl
theorem F_disk_Disk_Write_eq (E : FnA) (n n0 : Nat) (a0 a1 a2 : AV) (bx : Bx) : evK Try.prog md_disk_Disk_Write E 35 kp_disk_Disk_Write n n0 c_disk_Disk_Write ⟨[(0, a0), (1, a1), (2, a2)], bx⟩ (fun s => some (.normal, s)) (fun i s => some (.exit i, s)) = F_disk_Disk_Write E n n0 a0 a1 a2 bx := by kernel_rfl

theorem E_disk_Disk_Write (n : Nat) (a0 a1 a2 : AV) (bx : Bx) : evFn cx0 ext0 (n + 1) 8 [a0, a1, a2] bx = fin Try.prog [.tmp 6] (F_disk_Disk_Write (evFn cx0 ext0 n) n bx.length a0 a1 a2 bx) := by
  rw [evFn_eq2 (cx := cx0) (c := c_disk_Disk_Write) rfl Try.func8 c_disk_Disk_Write_eq (of_decide_eq_true (by kernel_rfl)) d_disk_Disk_Write (of_decide_eq_true (by kernel_rfl))]
  exact congrArg (fin Try.prog [.tmp 6]) (F_disk_Disk_Write_eq (evFn cx0 ext0 n) n bx.length a0 a1 a2 bx)

/-- (*scupper/disk.Disk).Read -/
def kp_disk_Disk_Read : Option (List Nat) := some [0, 1, 4, 5, 6, 11]
noncomputable def c_disk_Disk_Read : Code := Try.f11.body.getD .skip
noncomputable def F_disk_Disk_Read (E : FnA) (_n _n0 : Nat) (a0 a1 : AV) (bx : Bx) : Option (Ex × S) :=
  (allocA Try.prog bx 32).bind fun r1 =>
  (callA E md_disk_Disk_Read r1.2 27 [a0, a1]).bind fun r2 =>
  (pv r2.2 (binA Try.prog .neq 26 r2.1 (.v (Go.Value.int Go.IntKind.i64 0)))).bind fun r3 =>
  condA r3.1 ((pv r3.2 (buildA Try.prog 32 [])).bind fun r4 =>
  (stA Try.prog 32 r4.2 r1.1 r4.1).bind fun r5 =>
  some (.ret, ⟨[(5, r2.1), (11, r3.1), (6, r2.1), (5, (.v (Go.Value.int Go.IntKind.i64 0))), (4, r1.1), (0, a0), (1, a1)], r5.2⟩)) ((callA E md_disk_Disk_Read r3.2 26 [a0, a1]).bind fun r6 =>
  (stA Try.prog 32 r6.2 r1.1 r6.1).bind fun r7 =>
  some (.ret, ⟨[(5, (.v (Go.Value.int Go.IntKind.i64 0))), (11, r3.1), (6, r2.1), (5, (.v (Go.Value.int Go.IntKind.i64 0))), (4, r1.1), (0, a0), (1, a1)], r7.2⟩))
theorem c_disk_Disk_Read_eq : Try.f11.body = some c_disk_Disk_Read := by kernel_rfl
theorem d_disk_Disk_Read : drawsOk Try.prog md_disk_Disk_Read c_disk_Disk_Read = true := by kernel_rfl
theorem F_disk_Disk_Read_eq (E : FnA) (n n0 : Nat) (a0 a1 : AV) (bx : Bx) : evK Try.prog md_disk_Disk_Read E 17 kp_disk_Disk_Read n n0 c_disk_Disk_Read ⟨[(0, a0), (1, a1)], bx⟩ (fun s => some (.normal, s)) (fun i s => some (.exit i, s)) = F_disk_Disk_Read E n n0 a0 a1 bx := by kernel_rfl

theorem E_disk_Disk_Read (n : Nat) (a0 a1 : AV) (bx : Bx) : evFn cx0 ext0 (n + 1) 11 [a0, a1] bx = fin Try.prog [.cell 4 32, .tmp 5] (F_disk_Disk_Read (evFn cx0 ext0 n) n bx.length a0 a1 bx) := by
  rw [evFn_eq2 (cx := cx0) (c := c_disk_Disk_Read) rfl Try.func11 c_disk_Disk_Read_eq (of_decide_eq_true (by kernel_rfl)) d_disk_Disk_Read (of_decide_eq_true (by kernel_rfl))]
  exact congrArg (fin Try.prog [.cell 4 32, .tmp 5]) (F_disk_Disk_Read_eq (evFn cx0 ext0 n) n bx.length a0 a1 bx)

/-- (*scupper/disk.Disk).Waits -/
def kp_disk_Disk_Waits : Option (List Nat) := some [0, 1, 4, 8]
noncomputable def c_disk_Disk_Waits : Code := Try.f13.body.getD .skip
noncomputable def F_disk_Disk_Waits (E : FnA) (_n _n0 : Nat) (a0 a1 : AV) (bx : Bx) : Option (Ex × S) :=
  (callA E md0 bx 27 [a0, a1]).bind fun r1 =>
  (pv r1.2 (binA Try.prog .neq 26 r1.1 (.v (Go.Value.int Go.IntKind.i64 0)))).bind fun r2 =>
  condA r2.1 (some (.ret, ⟨[(4, (.v (Go.Value.int Go.IntKind.i64 0))), (8, r2.1), (4, (.v (Go.Value.int Go.IntKind.i64 0))), (0, a0), (1, a1)], r2.2⟩)) ((pv r2.2 (nilA a0)).bind fun r3 =>
  (pv r3.2 (fieldAddrA Try.prog 63 r3.1 2)).bind fun r4 =>
  (pv r4.2 (loadA Try.prog 61 r4.2 r4.1)).bind fun r5 =>
  (pv r5.2 (lookA Try.prog r5.2 61 r5.1 a1 false)).bind fun r6 =>
  (pv r6.2 (lenA Try.prog 35 r6.1)).bind fun r7 =>
  some (.ret, ⟨[(4, r7.1), (8, r2.1), (4, (.v (Go.Value.int Go.IntKind.i64 0))), (0, a0), (1, a1)], r7.2⟩))
theorem c_disk_Disk_Waits_eq : Try.f13.body = some c_disk_Disk_Waits := by kernel_rfl
theorem d_disk_Disk_Waits : drawsOk Try.prog md0 c_disk_Disk_Waits = true := by kernel_rfl
theorem F_disk_Disk_Waits_eq (E : FnA) (n n0 : Nat) (a0 a1 : AV) (bx : Bx) : evK Try.prog md0 E 16 kp_disk_Disk_Waits n n0 c_disk_Disk_Waits ⟨[(0, a0), (1, a1)], bx⟩ (fun s => some (.normal, s)) (fun i s => some (.exit i, s)) = F_disk_Disk_Waits E n n0 a0 a1 bx := by kernel_rfl

theorem E_disk_Disk_Waits (n : Nat) (a0 a1 : AV) (bx : Bx) : evFn cx0 ext0 (n + 1) 13 [a0, a1] bx = fin Try.prog [.tmp 4] (F_disk_Disk_Waits (evFn cx0 ext0 n) n bx.length a0 a1 bx) := by
  rw [evFn_eq2 (cx := cx0) (c := c_disk_Disk_Waits) rfl Try.func13 c_disk_Disk_Waits_eq (of_decide_eq_true (by kernel_rfl)) d_disk_Disk_Waits (of_decide_eq_true (by kernel_rfl))]
  exact congrArg (fin Try.prog [.tmp 4]) (F_disk_Disk_Waits_eq (evFn cx0 ext0 n) n bx.length a0 a1 bx)

/-- (*scupper/disk.Disk).Force -/
def kp_disk_Disk_Force : Option (List Nat) := some [0, 1, 2, 5, 6, 7, 12]
noncomputable def c_disk_Disk_Force : Code := Try.f14.body.getD .skip
noncomputable def F_disk_Disk_Force (E : FnA) (_n _n0 : Nat) (a0 a1 a2 : AV) (bx : Bx) : Option (Ex × S) :=
  (boxA bx a2).bind fun r1 =>
  (callA E md_disk_Disk_Force r1.2 25 [a0, a1]).bind fun r2 =>
  (pv r2.2 (binA Try.prog .eql 26 r2.1 (.v (Go.Value.int Go.IntKind.i64 0)))).bind fun r3 =>
  condA r3.1 ((pv r3.2 (nilA a0)).bind fun r4 =>
  (pv r4.2 (fieldAddrA Try.prog 63 r4.1 1)).bind fun r5 =>
  (pv r5.2 (loadA Try.prog 35 r5.2 r5.1)).bind fun r6 =>
  (pv r6.2 (loadA Try.prog 32 r6.2 r1.1)).bind fun r7 =>
  (pv r7.2 (indexAddrA Try.prog 35 r6.1 a1)).bind fun r8 =>
  (stA Try.prog 32 r8.2 r8.1 r7.1).bind fun r9 =>
  (pv r9.2 (nilA a0)).bind fun r10 =>
  (pv r10.2 (fieldAddrA Try.prog 63 r10.1 2)).bind fun r11 =>
  (pv r11.2 (loadA Try.prog 61 r11.2 r11.1)).bind fun r12 =>
  (dlV Try.prog 61 r12.2 r12.1 a1).bind fun r13 =>
  (pv r13.2 (nilA a0)).bind fun r14 =>
  (pv r14.2 (fieldAddrA Try.prog 63 r14.1 3)).bind fun r15 =>
  (pv r15.2 (loadA Try.prog 3 r15.2 r15.1)).bind fun r16 =>
  (pv r16.2 (binA Try.prog .add 3 r16.1 (.v (Go.Value.int Go.IntKind.i64 1)))).bind fun r17 =>
  (pv r17.2 (nilA a0)).bind fun r18 =>
  (pv r18.2 (fieldAddrA Try.prog 63 r18.1 3)).bind fun r19 =>
  (stA Try.prog 3 r19.2 r19.1 r17.1).bind fun r20 =>
  some (.ret, ⟨[(6, r2.1), (12, r3.1), (7, r2.1), (6, (.v (Go.Value.int Go.IntKind.i64 0))), (5, r1.1), (0, a0), (1, a1), (2, a2)], r20.2⟩)) (some (.ret, ⟨[(6, r2.1), (12, r3.1), (7, r2.1), (6, (.v (Go.Value.int Go.IntKind.i64 0))), (5, r1.1), (0, a0), (1, a1), (2, a2)], r3.2⟩))
theorem c_disk_Disk_Force_eq : Try.f14.body = some c_disk_Disk_Force := by kernel_rfl
theorem d_disk_Disk_Force : drawsOk Try.prog md_disk_Disk_Force c_disk_Disk_Force = true := by kernel_rfl
theorem F_disk_Disk_Force_eq (E : FnA) (n n0 : Nat) (a0 a1 a2 : AV) (bx : Bx) : evK Try.prog md_disk_Disk_Force E 33 kp_disk_Disk_Force n n0 c_disk_Disk_Force ⟨[(0, a0), (1, a1), (2, a2)], bx⟩ (fun s => some (.normal, s)) (fun i s => some (.exit i, s)) = F_disk_Disk_Force E n n0 a0 a1 a2 bx := by kernel_rfl

theorem E_disk_Disk_Force (n : Nat) (a0 a1 a2 : AV) (bx : Bx) : evFn cx0 ext0 (n + 1) 14 [a0, a1, a2] bx = fin Try.prog [.tmp 6] (F_disk_Disk_Force (evFn cx0 ext0 n) n bx.length a0 a1 a2 bx) := by
  rw [evFn_eq2 (cx := cx0) (c := c_disk_Disk_Force) rfl Try.func14 c_disk_Disk_Force_eq (of_decide_eq_true (by kernel_rfl)) d_disk_Disk_Force (of_decide_eq_true (by kernel_rfl))]
  exact congrArg (fin Try.prog [.tmp 6]) (F_disk_Disk_Force_eq (evFn cx0 ext0 n) n bx.length a0 a1 a2 bx)

/-- (*scupper/disk.Disk).Load -/
def kp_disk_Disk_Load : Option (List Nat) := some [0, 1, 4, 5, 8]
noncomputable def c_disk_Disk_Load : Code := Try.f15.body.getD .skip
noncomputable def F_disk_Disk_Load (_E : FnA) (_n _n0 : Nat) (a0 a1 : AV) (bx : Bx) : Option (Ex × S) :=
  (pv bx (binA Try.prog .eql 25 a0 (.v (Go.Value.pointer none)))).bind fun r1 =>
  condA r1.1 (some (.ret, ⟨[(4, (.v (Go.Value.int Go.IntKind.i64 1))), (5, r1.1), (4, (.v (Go.Value.int Go.IntKind.i64 0))), (0, a0), (1, a1)], r1.2⟩)) ((pv r1.2 (lenA Try.prog 35 a1)).bind fun r2 =>
  (pv r2.2 (nilA a0)).bind fun r3 =>
  (pv r3.2 (fieldAddrA Try.prog 63 r3.1 1)).bind fun r4 =>
  (pv r4.2 (loadA Try.prog 35 r4.2 r4.1)).bind fun r5 =>
  (pv r5.2 (lenA Try.prog 35 r5.1)).bind fun r6 =>
  (pv r6.2 (binA Try.prog .neq 3 r2.1 r6.1)).bind fun r7 =>
  condA r7.1 (some (.ret, ⟨[(4, (.v (Go.Value.int Go.IntKind.i64 2))), (8, r7.1), (5, r1.1), (4, (.v (Go.Value.int Go.IntKind.i64 0))), (0, a0), (1, a1)], r7.2⟩)) ((pv r7.2 (nilA a0)).bind fun r8 =>
  (pv r8.2 (fieldAddrA Try.prog 63 r8.1 1)).bind fun r9 =>
  (pv r9.2 (loadA Try.prog 35 r9.2 r9.1)).bind fun r10 =>
  (copyA Try.prog r10.2 35 r10.1 a1).bind fun r11 =>
  (pv r11.2 (nilA a0)).bind fun r12 =>
  (pv r12.2 (fieldAddrA Try.prog 63 r12.1 2)).bind fun r13 =>
  (pv r13.2 (loadA Try.prog 61 r13.2 r13.1)).bind fun r14 =>
  (crV r14.2 r14.1).bind fun r15 =>
  some (.ret, ⟨[(4, (.v (Go.Value.int Go.IntKind.i64 0))), (8, r7.1), (5, r1.1), (4, (.v (Go.Value.int Go.IntKind.i64 0))), (0, a0), (1, a1)], r15.2⟩)))
theorem c_disk_Disk_Load_eq : Try.f15.body = some c_disk_Disk_Load := by kernel_rfl
theorem d_disk_Disk_Load : drawsOk Try.prog md0 c_disk_Disk_Load = true := by kernel_rfl
theorem F_disk_Disk_Load_eq (E : FnA) (n n0 : Nat) (a0 a1 : AV) (bx : Bx) : evK Try.prog md0 E 27 kp_disk_Disk_Load n n0 c_disk_Disk_Load ⟨[(0, a0), (1, a1)], bx⟩ (fun s => some (.normal, s)) (fun i s => some (.exit i, s)) = F_disk_Disk_Load E n n0 a0 a1 bx := by kernel_rfl

theorem E_disk_Disk_Load (n : Nat) (a0 a1 : AV) (bx : Bx) : evFn cx0 ext0 (n + 1) 15 [a0, a1] bx = fin Try.prog [.tmp 4] (F_disk_Disk_Load (evFn cx0 ext0 n) n bx.length a0 a1 bx) := by
  rw [evFn_eq2 (cx := cx0) (c := c_disk_Disk_Load) rfl Try.func15 c_disk_Disk_Load_eq (of_decide_eq_true (by kernel_rfl)) d_disk_Disk_Load (of_decide_eq_true (by kernel_rfl))]
  exact congrArg (fin Try.prog [.tmp 4]) (F_disk_Disk_Load_eq (evFn cx0 ext0 n) n bx.length a0 a1 bx)

/-- (*scupper/disk.Disk).Len -/
def kp_disk_Disk_Len : Option (List Nat) := some [0, 2, 4]
noncomputable def c_disk_Disk_Len : Code := Try.f16.body.getD .skip
noncomputable def F_disk_Disk_Len (_E : FnA) (_n _n0 : Nat) (a0 : AV) (bx : Bx) : Option (Ex × S) :=
  (pv bx (binA Try.prog .eql 25 a0 (.v (Go.Value.pointer none)))).bind fun r1 =>
  condA r1.1 (some (.ret, ⟨[(2, (.v (Go.Value.int Go.IntKind.i64 0))), (4, r1.1), (2, (.v (Go.Value.int Go.IntKind.i64 0))), (0, a0)], r1.2⟩)) ((pv r1.2 (nilA a0)).bind fun r2 =>
  (pv r2.2 (fieldAddrA Try.prog 63 r2.1 1)).bind fun r3 =>
  (pv r3.2 (loadA Try.prog 35 r3.2 r3.1)).bind fun r4 =>
  (pv r4.2 (lenA Try.prog 35 r4.1)).bind fun r5 =>
  some (.ret, ⟨[(2, r5.1), (4, r1.1), (2, (.v (Go.Value.int Go.IntKind.i64 0))), (0, a0)], r5.2⟩))
theorem c_disk_Disk_Len_eq : Try.f16.body = some c_disk_Disk_Len := by kernel_rfl
theorem d_disk_Disk_Len : drawsOk Try.prog md0 c_disk_Disk_Len = true := by kernel_rfl
theorem F_disk_Disk_Len_eq (E : FnA) (n n0 : Nat) (a0 : AV) (bx : Bx) : evK Try.prog md0 E 10 kp_disk_Disk_Len n n0 c_disk_Disk_Len ⟨[(0, a0)], bx⟩ (fun s => some (.normal, s)) (fun i s => some (.exit i, s)) = F_disk_Disk_Len E n n0 a0 bx := by kernel_rfl

theorem E_disk_Disk_Len (n : Nat) (a0 : AV) (bx : Bx) : evFn cx0 ext0 (n + 1) 16 [a0] bx = fin Try.prog [.tmp 2] (F_disk_Disk_Len (evFn cx0 ext0 n) n bx.length a0 bx) := by
  rw [evFn_eq2 (cx := cx0) (c := c_disk_Disk_Len) rfl Try.func16 c_disk_Disk_Len_eq (of_decide_eq_true (by kernel_rfl)) d_disk_Disk_Len (of_decide_eq_true (by kernel_rfl))]
  exact congrArg (fin Try.prog [.tmp 2]) (F_disk_Disk_Len_eq (evFn cx0 ext0 n) n bx.length a0 bx)

/-- (*scupper/disk.Disk).Writes -/
def kp_disk_Disk_Writes : Option (List Nat) := some [0, 2, 4]
noncomputable def c_disk_Disk_Writes : Code := Try.f17.body.getD .skip
noncomputable def F_disk_Disk_Writes (_E : FnA) (_n _n0 : Nat) (a0 : AV) (bx : Bx) : Option (Ex × S) :=
  (pv bx (binA Try.prog .eql 25 a0 (.v (Go.Value.pointer none)))).bind fun r1 =>
  condA r1.1 (some (.ret, ⟨[(2, (.v (Go.Value.int Go.IntKind.i64 0))), (4, r1.1), (2, (.v (Go.Value.int Go.IntKind.i64 0))), (0, a0)], r1.2⟩)) ((pv r1.2 (nilA a0)).bind fun r2 =>
  (pv r2.2 (fieldAddrA Try.prog 63 r2.1 3)).bind fun r3 =>
  (pv r3.2 (loadA Try.prog 3 r3.2 r3.1)).bind fun r4 =>
  some (.ret, ⟨[(2, r4.1), (4, r1.1), (2, (.v (Go.Value.int Go.IntKind.i64 0))), (0, a0)], r4.2⟩))
theorem c_disk_Disk_Writes_eq : Try.f17.body = some c_disk_Disk_Writes := by kernel_rfl
theorem d_disk_Disk_Writes : drawsOk Try.prog md0 c_disk_Disk_Writes = true := by kernel_rfl
theorem F_disk_Disk_Writes_eq (E : FnA) (n n0 : Nat) (a0 : AV) (bx : Bx) : evK Try.prog md0 E 9 kp_disk_Disk_Writes n n0 c_disk_Disk_Writes ⟨[(0, a0)], bx⟩ (fun s => some (.normal, s)) (fun i s => some (.exit i, s)) = F_disk_Disk_Writes E n n0 a0 bx := by kernel_rfl

theorem E_disk_Disk_Writes (n : Nat) (a0 : AV) (bx : Bx) : evFn cx0 ext0 (n + 1) 17 [a0] bx = fin Try.prog [.tmp 2] (F_disk_Disk_Writes (evFn cx0 ext0 n) n bx.length a0 bx) := by
  rw [evFn_eq2 (cx := cx0) (c := c_disk_Disk_Writes) rfl Try.func17 c_disk_Disk_Writes_eq (of_decide_eq_true (by kernel_rfl)) d_disk_Disk_Writes (of_decide_eq_true (by kernel_rfl))]
  exact congrArg (fin Try.prog [.tmp 2]) (F_disk_Disk_Writes_eq (evFn cx0 ext0 n) n bx.length a0 bx)

/-- (*scupper/disk.Disk).Image -/
def kp_disk_Disk_Image : Option (List Nat) := some [0, 2, 4]
noncomputable def c_disk_Disk_Image : Code := Try.f18.body.getD .skip
noncomputable def F_disk_Disk_Image (E : FnA) (_n _n0 : Nat) (a0 : AV) (bx : Bx) : Option (Ex × S) :=
  (some (AV.bsl (List.length bx) 0 0 0, bx ++ [[]])).bind fun r1 =>
  (pv r1.2 (binA Try.prog .eql 25 a0 (.v (Go.Value.pointer none)))).bind fun r2 =>
  condA r2.1 ((some (AV.bsl (List.length r2.2) 0 0 0, r2.2 ++ [[]])).bind fun r3 =>
  some (.ret, ⟨[(2, r3.1), (4, r2.1), (2, r1.1), (0, a0)], r3.2⟩)) ((pv r2.2 (nilA a0)).bind fun r4 =>
  (pv r4.2 (fieldAddrA Try.prog 63 r4.1 1)).bind fun r5 =>
  (pv r5.2 (loadA Try.prog 35 r5.2 r5.1)).bind fun r6 =>
  (callA E md_disk_Disk_Image r6.2 28 [r6.1]).bind fun r7 =>
  some (.ret, ⟨[(2, r7.1), (4, r2.1), (2, r1.1), (0, a0)], r7.2⟩))
theorem c_disk_Disk_Image_eq : Try.f18.body = some c_disk_Disk_Image := by kernel_rfl
theorem d_disk_Disk_Image : drawsOk Try.prog md_disk_Disk_Image c_disk_Disk_Image = true := by kernel_rfl
theorem F_disk_Disk_Image_eq (E : FnA) (n n0 : Nat) (a0 : AV) (bx : Bx) : evK Try.prog md_disk_Disk_Image E 10 kp_disk_Disk_Image n n0 c_disk_Disk_Image ⟨[(0, a0)], bx⟩ (fun s => some (.normal, s)) (fun i s => some (.exit i, s)) = F_disk_Disk_Image E n n0 a0 bx := by kernel_rfl

theorem E_disk_Disk_Image (n : Nat) (a0 : AV) (bx : Bx) : evFn cx0 ext0 (n + 1) 18 [a0] bx = fin Try.prog [.tmp 2] (F_disk_Disk_Image (evFn cx0 ext0 n) n bx.length a0 bx) := by
  rw [evFn_eq2 (cx := cx0) (c := c_disk_Disk_Image) rfl Try.func18 c_disk_Disk_Image_eq (of_decide_eq_true (by kernel_rfl)) d_disk_Disk_Image (of_decide_eq_true (by kernel_rfl))]
  exact congrArg (fin Try.prog [.tmp 2]) (F_disk_Disk_Image_eq (evFn cx0 ext0 n) n bx.length a0 bx)

/-- (*scupper/disk.Disk).use -/
def kp_disk_Disk_use : Option (List Nat) := some [0, 1, 4, 5, 10]
noncomputable def c_disk_Disk_use : Code := Try.f25.body.getD .skip
noncomputable def F_disk_Disk_use (E : FnA) (_n _n0 : Nat) (a0 a1 : AV) (bx : Bx) : Option (Ex × S) :=
  (callA E md_disk_Disk_use bx 27 [a0, a1]).bind fun r1 =>
  (pv r1.2 (binA Try.prog .neq 26 r1.1 (.v (Go.Value.int Go.IntKind.i64 0)))).bind fun r2 =>
  condA r2.1 (some (.ret, ⟨[(4, r1.1), (10, r2.1), (5, r1.1), (4, (.v (Go.Value.int Go.IntKind.i64 0))), (0, a0), (1, a1)], r2.2⟩)) ((pv r2.2 (nilA a0)).bind fun r3 =>
  (pv r3.2 (fieldAddrA Try.prog 63 r3.1 0)).bind fun r4 =>
  (pv r4.2 (loadA Try.prog 47 r4.2 r4.1)).bind fun r5 =>
  (callA E md_disk_Disk_use r5.2 40 [r5.1]).bind fun r6 =>
  some (.ret, ⟨[(4, r6.1), (10, r2.1), (5, r1.1), (4, (.v (Go.Value.int Go.IntKind.i64 0))), (0, a0), (1, a1)], r6.2⟩))
theorem c_disk_Disk_use_eq : Try.f25.body = some c_disk_Disk_use := by kernel_rfl
theorem d_disk_Disk_use : drawsOk Try.prog md_disk_Disk_use c_disk_Disk_use = true := by kernel_rfl
theorem F_disk_Disk_use_eq (E : FnA) (n n0 : Nat) (a0 a1 : AV) (bx : Bx) : evK Try.prog md_disk_Disk_use E 17 kp_disk_Disk_use n n0 c_disk_Disk_use ⟨[(0, a0), (1, a1)], bx⟩ (fun s => some (.normal, s)) (fun i s => some (.exit i, s)) = F_disk_Disk_use E n n0 a0 a1 bx := by kernel_rfl

theorem E_disk_Disk_use (n : Nat) (a0 a1 : AV) (bx : Bx) : evFn cx0 ext0 (n + 1) 25 [a0, a1] bx = fin Try.prog [.tmp 4] (F_disk_Disk_use (evFn cx0 ext0 n) n bx.length a0 a1 bx) := by
  rw [evFn_eq2 (cx := cx0) (c := c_disk_Disk_use) rfl Try.func25 c_disk_Disk_use_eq (of_decide_eq_true (by kernel_rfl)) d_disk_Disk_use (of_decide_eq_true (by kernel_rfl))]
  exact congrArg (fin Try.prog [.tmp 4]) (F_disk_Disk_use_eq (evFn cx0 ext0 n) n bx.length a0 a1 bx)

/-- (*scupper/disk.Disk).shows -/
def kp_disk_Disk_shows : Option (List Nat) := some [0, 1, 4, 5, 14]
noncomputable def c_disk_Disk_shows : Code := Try.f26.body.getD .skip
noncomputable def F_disk_Disk_shows (_E : FnA) (_n _n0 : Nat) (a0 a1 : AV) (bx : Bx) : Option (Ex × S) :=
  (allocA Try.prog bx 32).bind fun r1 =>
  (pv r1.2 (nilA a0)).bind fun r2 =>
  (pv r2.2 (fieldAddrA Try.prog 63 r2.1 2)).bind fun r3 =>
  (pv r3.2 (loadA Try.prog 61 r3.2 r3.1)).bind fun r4 =>
  (pv r4.2 (lookA Try.prog r4.2 61 r4.1 a1 false)).bind fun r5 =>
  (pv r5.2 (lenA Try.prog 35 r5.1)).bind fun r6 =>
  (pv r6.2 (binA Try.prog .gtr 3 r6.1 (.v (Go.Value.int Go.IntKind.i64 0)))).bind fun r7 =>
  condA r7.1 ((pv r7.2 (lenA Try.prog 35 r5.1)).bind fun r8 =>
  (pv r8.2 (binA Try.prog .sub 3 r8.1 (.v (Go.Value.int Go.IntKind.i64 1)))).bind fun r9 =>
  (pv r9.2 (indexAddrA Try.prog 35 r5.1 r9.1)).bind fun r10 =>
  (pv r10.2 (loadA Try.prog 32 r10.2 r10.1)).bind fun r11 =>
  (stA Try.prog 32 r11.2 r1.1 r11.1).bind fun r12 =>
  some (.ret, ⟨[(14, r7.1), (5, r5.1), (4, r1.1), (0, a0), (1, a1)], r12.2⟩)) ((pv r7.2 (nilA a0)).bind fun r13 =>
  (pv r13.2 (fieldAddrA Try.prog 63 r13.1 1)).bind fun r14 =>
  (pv r14.2 (loadA Try.prog 35 r14.2 r14.1)).bind fun r15 =>
  (pv r15.2 (indexAddrA Try.prog 35 r15.1 a1)).bind fun r16 =>
  (pv r16.2 (loadA Try.prog 32 r16.2 r16.1)).bind fun r17 =>
  (stA Try.prog 32 r17.2 r1.1 r17.1).bind fun r18 =>
  some (.ret, ⟨[(14, r7.1), (5, r5.1), (4, r1.1), (0, a0), (1, a1)], r18.2⟩))
theorem c_disk_Disk_shows_eq : Try.f26.body = some c_disk_Disk_shows := by kernel_rfl
theorem d_disk_Disk_shows : drawsOk Try.prog md0 c_disk_Disk_shows = true := by kernel_rfl
theorem F_disk_Disk_shows_eq (E : FnA) (n n0 : Nat) (a0 a1 : AV) (bx : Bx) : evK Try.prog md0 E 28 kp_disk_Disk_shows n n0 c_disk_Disk_shows ⟨[(0, a0), (1, a1)], bx⟩ (fun s => some (.normal, s)) (fun i s => some (.exit i, s)) = F_disk_Disk_shows E n n0 a0 a1 bx := by kernel_rfl

theorem E_disk_Disk_shows (n : Nat) (a0 a1 : AV) (bx : Bx) : evFn cx0 ext0 (n + 1) 26 [a0, a1] bx = fin Try.prog [.cell 4 32] (F_disk_Disk_shows (evFn cx0 ext0 n) n bx.length a0 a1 bx) := by
  rw [evFn_eq2 (cx := cx0) (c := c_disk_Disk_shows) rfl Try.func26 c_disk_Disk_shows_eq (of_decide_eq_true (by kernel_rfl)) d_disk_Disk_shows (of_decide_eq_true (by kernel_rfl))]
  exact congrArg (fin Try.prog [.cell 4 32]) (F_disk_Disk_shows_eq (evFn cx0 ext0 n) n bx.length a0 a1 bx)

/-- (*scupper/disk.Disk).may -/
def kp_disk_Disk_may : Option (List Nat) := some [0, 1, 4, 5, 8]
noncomputable def c_disk_Disk_may : Code := Try.f27.body.getD .skip
noncomputable def F_disk_Disk_may (_E : FnA) (_n _n0 : Nat) (a0 a1 : AV) (bx : Bx) : Option (Ex × S) :=
  (pv bx (binA Try.prog .eql 25 a0 (.v (Go.Value.pointer none)))).bind fun r1 =>
  condA r1.1 (some (.ret, ⟨[(4, (.v (Go.Value.int Go.IntKind.i64 1))), (5, r1.1), (4, (.v (Go.Value.int Go.IntKind.i64 0))), (0, a0), (1, a1)], r1.2⟩)) ((pv r1.2 (binA Try.prog .lss 3 a1 (.v (Go.Value.int Go.IntKind.i64 0)))).bind fun r2 =>
  (gsel false r2.2 (some (a1, r2.2)) r2.1).bind fun r3 =>
  (gsel false r3.2 (some (a0, r3.2)) r2.1).bind fun r4 =>
  (gsel false r4.2 (pv r4.2 (nilA r4.1)) r2.1).bind fun r5 =>
  (gsel false r5.2 (pv r5.2 (fieldAddrA Try.prog 63 r5.1 1)) r2.1).bind fun r6 =>
  (gsel false r6.2 (pv r6.2 (loadA Try.prog 35 r6.2 r6.1)) r2.1).bind fun r7 =>
  (gsel false r7.2 (pv r7.2 (lenA Try.prog 35 r7.1)) r2.1).bind fun r8 =>
  (gsel false r8.2 (pv r8.2 (binA Try.prog .geq 3 r3.1 r8.1)) r2.1).bind fun r9 =>
  (pv r9.2 (pickA r2.1 (.v (Go.Value.bool true)) r9.1)).bind fun r10 =>
  condA r10.1 (some (.ret, ⟨[(4, (.v (Go.Value.int Go.IntKind.i64 2))), (8, r10.1), (5, r1.1), (4, (.v (Go.Value.int Go.IntKind.i64 0))), (0, a0), (1, a1)], r10.2⟩)) (some (.ret, ⟨[(4, (.v (Go.Value.int Go.IntKind.i64 0))), (8, r10.1), (5, r1.1), (4, (.v (Go.Value.int Go.IntKind.i64 0))), (0, a0), (1, a1)], r10.2⟩)))
theorem c_disk_Disk_may_eq : Try.f27.body = some c_disk_Disk_may := by kernel_rfl
theorem d_disk_Disk_may : drawsOk Try.prog md0 c_disk_Disk_may = true := by kernel_rfl
theorem F_disk_Disk_may_eq (E : FnA) (n n0 : Nat) (a0 a1 : AV) (bx : Bx) : evK Try.prog md0 E 20 kp_disk_Disk_may n n0 c_disk_Disk_may ⟨[(0, a0), (1, a1)], bx⟩ (fun s => some (.normal, s)) (fun i s => some (.exit i, s)) = F_disk_Disk_may E n n0 a0 a1 bx := by kernel_rfl

theorem E_disk_Disk_may (n : Nat) (a0 a1 : AV) (bx : Bx) : evFn cx0 ext0 (n + 1) 27 [a0, a1] bx = fin Try.prog [.tmp 4] (F_disk_Disk_may (evFn cx0 ext0 n) n bx.length a0 a1 bx) := by
  rw [evFn_eq2 (cx := cx0) (c := c_disk_Disk_may) rfl Try.func27 c_disk_Disk_may_eq (of_decide_eq_true (by kernel_rfl)) d_disk_Disk_may (of_decide_eq_true (by kernel_rfl))]
  exact congrArg (fin Try.prog [.tmp 4]) (F_disk_Disk_may_eq (evFn cx0 ext0 n) n bx.length a0 a1 bx)

/-- slices.Clone[[]scupper/api.Block,scupper/api.Block] -/
def kp_slices_Clone_api_Block_api_Block : Option (List Nat) := some [0, 2, 4]
noncomputable def c_slices_Clone_api_Block_api_Block : Code := Try.f28.body.getD .skip
noncomputable def F_slices_Clone_api_Block_api_Block (_E : FnA) (_n n0 : Nat) (a0 : AV) (bx : Bx) : Option (Ex × S) :=
  (some (AV.bsl (List.length bx) 0 0 0, bx ++ [[]])).bind fun r1 =>
  (pv r1.2 (binA Try.prog .eql 35 a0 (.v (Go.Value.slice none 0 0)))).bind fun r2 =>
  condA r2.1 ((some (AV.bsl (List.length r2.2) 0 0 0, r2.2 ++ [[]])).bind fun r3 =>
  some (.ret, ⟨[(2, r3.1), (4, r2.1), (2, r1.1), (0, a0)], r3.2⟩)) ((buildSliceA Try.prog r2.2 35 0 []).bind fun r4 =>
  (appA Try.prog n0 r4.2 35 r4.1 a0).bind fun r5 =>
  some (.ret, ⟨[(2, r5.1), (4, (r5.2.1 r2.1)), (2, (r5.2.1 r1.1)), (0, (r5.2.1 a0))], r5.2.2⟩))
theorem c_slices_Clone_api_Block_api_Block_eq : Try.f28.body = some c_slices_Clone_api_Block_api_Block := by kernel_rfl
theorem d_slices_Clone_api_Block_api_Block : drawsOk Try.prog md0 c_slices_Clone_api_Block_api_Block = true := by kernel_rfl
theorem F_slices_Clone_api_Block_api_Block_eq (E : FnA) (n n0 : Nat) (a0 : AV) (bx : Bx) : evK Try.prog md0 E 8 kp_slices_Clone_api_Block_api_Block n n0 c_slices_Clone_api_Block_api_Block ⟨[(0, a0)], bx⟩ (fun s => some (.normal, s)) (fun i s => some (.exit i, s)) = F_slices_Clone_api_Block_api_Block E n n0 a0 bx := by kernel_rfl

theorem E_slices_Clone_api_Block_api_Block (n : Nat) (a0 : AV) (bx : Bx) : evFn cx0 ext0 (n + 1) 28 [a0] bx = fin Try.prog [.tmp 2] (F_slices_Clone_api_Block_api_Block (evFn cx0 ext0 n) n bx.length a0 bx) := by
  rw [evFn_eq2 (cx := cx0) (c := c_slices_Clone_api_Block_api_Block) rfl Try.func28 c_slices_Clone_api_Block_api_Block_eq (of_decide_eq_true (by kernel_rfl)) d_slices_Clone_api_Block_api_Block (of_decide_eq_true (by kernel_rfl))]
  exact congrArg (fin Try.prog [.tmp 2]) (F_slices_Clone_api_Block_api_Block_eq (evFn cx0 ext0 n) n bx.length a0 bx)

end Go.Sy.Pr0
