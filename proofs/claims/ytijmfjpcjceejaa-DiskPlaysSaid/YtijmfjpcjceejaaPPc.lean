/-
  The parts of disk.Crash and disk.Flush, in the reader's words; no conditions.
-/
import Derived.Test.YtijmfjpcjceejaaSyRange
import Derived.Test.YtijmfjpcjceejaaPfSho
import Derived.Test.YtijmfjpcjceejaaProg
import Derived.KernelRfl
namespace Go.Sy.Pre
open Go.Proofs
def kpT : FuncId → Option (List Nat)
  | 9 => some [0, 1, 4, 6]
  | _ => none
def md_disk_Disk_Flush : FuncId → Md
  | 25 => .objK
  | 26 => .objR
  | _ => .frozen
def mdT : FuncId → FuncId → Md
  | 10 => md_disk_Disk_Flush
  | _ => md0
noncomputable def cx0 : Cx := { P := Try.prog, md := mdT, kp := kpT }
noncomputable def ext0 : FnA := ext1
theorem ext0_ok (f : FuncId) (args : List AV) (bx : Bx) (r : AV) (bx' : Bx) (h : ext0 f args bx = some (r, bx')) : Sound cx0.P f args bx r bx' := ext1_ok f args bx r bx' h
/-- scupper/scupperbase.Among -/
def kp_base_Among : Option (List Nat) := some [0, 1, 4, 6]
noncomputable def c_base_Among : Code := Try.f9.body.getD .skip
noncomputable def F_base_Among (_E : FnA) (_n _n0 : Nat) (a0 a1 : AV) (bx : Bx) : Option (Ex × S) :=
  (pv bx (binA Try.prog .lss 3 a1 (.v (Go.Value.int Go.IntKind.i64 1)))).bind fun r1 =>
  condA r1.1 (some (.ret, ⟨[(4, (.v (Go.Value.int Go.IntKind.i64 0))), (6, r1.1), (4, (.v (Go.Value.int Go.IntKind.i64 0))), (0, a0), (1, a1)], r1.2⟩)) ((convA Try.prog r1.2 3 65 a0).bind fun r2 =>
  (convA Try.prog r2.2 3 65 a1).bind fun r3 =>
  (pv r3.2 (binA Try.prog .rem 65 r2.1 r3.1)).bind fun r4 =>
  (convA Try.prog r4.2 65 3 r4.1).bind fun r5 =>
  some (.ret, ⟨[(4, r5.1), (6, r1.1), (4, (.v (Go.Value.int Go.IntKind.i64 0))), (0, a0), (1, a1)], r5.2⟩))
theorem c_base_Among_eq : Try.f9.body = some c_base_Among := by kernel_rfl
theorem d_base_Among : drawsOk Try.prog md0 c_base_Among = true := by kernel_rfl
theorem F_base_Among_eq (E : FnA) (n n0 : Nat) (a0 a1 : AV) (bx : Bx) : evK Try.prog md0 E 13 kp_base_Among n n0 c_base_Among ⟨[(0, a0), (1, a1)], bx⟩ (fun s => some (.normal, s)) (fun i s => some (.exit i, s)) = F_base_Among E n n0 a0 a1 bx := by kernel_rfl

theorem E_base_Among (n : Nat) (a0 a1 : AV) (bx : Bx) : evFn cx0 ext0 (n + 1) 9 [a0, a1] bx = fin Try.prog [.tmp 4] (F_base_Among (evFn cx0 ext0 n) n bx.length a0 a1 bx) := by
  rw [evFn_eq2 (cx := cx0) (c := c_base_Among) rfl Try.func9 c_base_Among_eq (of_decide_eq_true (by kernel_rfl)) d_base_Among (of_decide_eq_true (by kernel_rfl))]
  exact congrArg (fin Try.prog [.tmp 4]) (F_base_Among_eq (evFn cx0 ext0 n) n bx.length a0 a1 bx)

def cs1 : Code → Code
  | .seq a _ => a
  | c => c
def cs2 : Code → Code
  | .seq _ b => b
  | c => c
def cb : Code → Code
  | .block _ c => c
  | c => c
def cl : Code → Code
  | .loop c => c
  | c => c
def opsC : Code → Array Oper
  | .region _ o _ => o
  | _ => #[]
noncomputable def c_crP0 : Code := cs1 (Try.f12.body.getD .skip)
noncomputable def F_crP0 (_E : FnA) (_n _n0 : Nat) (x0 x1 : AV) (bx : Bx) : Option (Ex × S) :=
  (pv bx (binA Try.prog .eql 25 x0 (.v (Go.Value.pointer none)))).bind fun r1 =>
  condA r1.1 (some (.ret, ⟨[(8, r1.1), (7, x0), (0, x0), (1, x1)], r1.2⟩)) (some (.normal, ⟨[(8, r1.1), (7, x0), (0, x0), (1, x1)], r1.2⟩))
theorem F_crP0_eq (E : FnA) (n n0 : Nat) (x0 x1 : AV) (bx : Bx) : evK Try.prog md0 E 48 none n n0 c_crP0 ⟨[(0, x0), (1, x1)], bx⟩ (fun s => some (.normal, s)) (fun i s => some (.exit i, s)) = F_crP0 E n n0 x0 x1 bx := by kernel_rfl
theorem d_crP0 : drawsOk Try.prog md0 c_crP0 = true := by kernel_rfl
noncomputable def c_crR1 : Code := cs1 (cs1 (cs2 (Try.f12.body.getD .skip)))
noncomputable def c_crBlk : Code := cs2 (cs1 (cs2 (Try.f12.body.getD .skip)))
noncomputable def c_crB : Code := cl (cb (cs2 (cs1 (cs2 (Try.f12.body.getD .skip)))))
noncomputable def c_crR2 : Code := cs1 (cl (cb (cs2 (cs1 (cs2 (Try.f12.body.getD .skip))))))
noncomputable def c_crC : Code := cs1 (cs2 (cl (cb (cs2 (cs1 (cs2 (Try.f12.body.getD .skip)))))))
noncomputable def c_crR3 : Code := cs1 (cb (cs2 (cs2 (cl (cb (cs2 (cs1 (cs2 (Try.f12.body.getD .skip)))))))))
noncomputable def c_crR4 : Code := cs2 (cb (cs2 (cs2 (cl (cb (cs2 (cs1 (cs2 (Try.f12.body.getD .skip)))))))))
noncomputable def F_crR4 (_E : FnA) (_n _n0 : Nat) (x0 x1 x4 x5 x13 : AV) (bx : Bx) : Option (Ex × S) :=
  (pv bx (lenA Try.prog 23 x1)).bind fun r1 =>
  (pv r1.2 (binA Try.prog .lss 3 x4 r1.1)).bind fun r2 =>
  condA r2.1 ((pv r2.2 (indexAddrA Try.prog 23 x1 x4)).bind fun r3 =>
  (pv r3.2 (loadA Try.prog 3 r3.2 r3.1)).bind fun r4 =>
  (pv r4.2 (minL true r4.1 [(.v (Go.Value.int Go.IntKind.i64 0))])).bind fun r5 =>
  (pv r5.2 (lenA Try.prog 35 x5)).bind fun r6 =>
  (pv r6.2 (minL false r5.1 [r6.1])).bind fun r7 =>
  (pv r7.2 (binA Try.prog .gtr 3 r7.1 (.v (Go.Value.int Go.IntKind.i64 0)))).bind fun r8 =>
  condA r8.1 ((pv r8.2 (nilA x0)).bind fun r9 =>
  (pv r9.2 (fieldAddrA Try.prog 63 r9.1 1)).bind fun r10 =>
  (pv r10.2 (loadA Try.prog 35 r10.2 r10.1)).bind fun r11 =>
  (pv r11.2 (binA Try.prog .sub 3 r7.1 (.v (Go.Value.int Go.IntKind.i64 1)))).bind fun r12 =>
  (pv r12.2 (indexAddrA Try.prog 35 x5 r12.1)).bind fun r13 =>
  (pv r13.2 (loadA Try.prog 32 r13.2 r13.1)).bind fun r14 =>
  (pv r14.2 (indexAddrA Try.prog 35 r11.1 x4)).bind fun r15 =>
  (stA Try.prog 32 r15.2 r15.1 r14.1).bind fun r16 =>
  some (.normal, ⟨[(43, r15.1), (42, r14.1), (41, r13.1), (40, r12.1), (39, r7.1), (38, x5), (37, x4), (36, r11.1), (35, r10.1), (34, r9.1), (33, x0), (32, r8.1), (31, r7.1), (6, r7.1), (30, r7.1), (29, r6.1), (28, x5), (27, r5.1), (26, r4.1), (25, r3.1), (24, x4), (23, x1), (22, r2.1), (21, r1.1), (20, x1), (19, x4), (6, (.v (Go.Value.int Go.IntKind.i64 0))), (0, x0), (1, x1), (4, x4), (5, x5), (13, x13)], r16.2⟩)) (some (.normal, ⟨[(32, r8.1), (31, r7.1), (6, r7.1), (30, r7.1), (29, r6.1), (28, x5), (27, r5.1), (26, r4.1), (25, r3.1), (24, x4), (23, x1), (22, r2.1), (21, r1.1), (20, x1), (19, x4), (6, (.v (Go.Value.int Go.IntKind.i64 0))), (0, x0), (1, x1), (4, x4), (5, x5), (13, x13)], r8.2⟩))) ((pv r2.2 (binA Try.prog .gtr 3 (.v (Go.Value.int Go.IntKind.i64 0)) (.v (Go.Value.int Go.IntKind.i64 0)))).bind fun r17 =>
  condA r17.1 ((pv r17.2 (nilA x0)).bind fun r18 =>
  (pv r18.2 (fieldAddrA Try.prog 63 r18.1 1)).bind fun r19 =>
  (pv r19.2 (loadA Try.prog 35 r19.2 r19.1)).bind fun r20 =>
  (pv r20.2 (binA Try.prog .sub 3 (.v (Go.Value.int Go.IntKind.i64 0)) (.v (Go.Value.int Go.IntKind.i64 1)))).bind fun r21 =>
  (pv r21.2 (indexAddrA Try.prog 35 x5 r21.1)).bind fun r22 =>
  (pv r22.2 (loadA Try.prog 32 r22.2 r22.1)).bind fun r23 =>
  (pv r23.2 (indexAddrA Try.prog 35 r20.1 x4)).bind fun r24 =>
  (stA Try.prog 32 r24.2 r24.1 r23.1).bind fun r25 =>
  some (.normal, ⟨[(43, r24.1), (42, r23.1), (41, r22.1), (40, r21.1), (39, (.v (Go.Value.int Go.IntKind.i64 0))), (38, x5), (37, x4), (36, r20.1), (35, r19.1), (34, r18.1), (33, x0), (32, r17.1), (31, (.v (Go.Value.int Go.IntKind.i64 0))), (22, r2.1), (21, r1.1), (20, x1), (19, x4), (6, (.v (Go.Value.int Go.IntKind.i64 0))), (0, x0), (1, x1), (4, x4), (5, x5), (13, x13)], r25.2⟩)) (some (.normal, ⟨[(32, r17.1), (31, (.v (Go.Value.int Go.IntKind.i64 0))), (22, r2.1), (21, r1.1), (20, x1), (19, x4), (6, (.v (Go.Value.int Go.IntKind.i64 0))), (0, x0), (1, x1), (4, x4), (5, x5), (13, x13)], r17.2⟩)))
theorem F_crR4_eq (E : FnA) (n n0 : Nat) (x0 x1 x4 x5 x13 : AV) (bx : Bx) : evK Try.prog md0 E 48 none n n0 c_crR4 ⟨[(0, x0), (1, x1), (4, x4), (5, x5), (13, x13)], bx⟩ (fun s => some (.normal, s)) (fun i s => some (.exit i, s)) = F_crR4 E n n0 x0 x1 x4 x5 x13 bx := by kernel_rfl
theorem d_crR4 : drawsOk Try.prog md0 c_crR4 = true := by kernel_rfl
noncomputable def c_crP9 : Code := cs2 (cs2 (Try.f12.body.getD .skip))
noncomputable def F_crP9 (_E : FnA) (_n _n0 : Nat) (x0 : AV) (bx : Bx) : Option (Ex × S) :=
  (pv bx (nilA x0)).bind fun r1 =>
  (pv r1.2 (fieldAddrA Try.prog 63 r1.1 2)).bind fun r2 =>
  (pv r2.2 (loadA Try.prog 61 r2.2 r2.1)).bind fun r3 =>
  (crV r3.2 r3.1).bind fun r4 =>
  some (.normal, ⟨[(47, r3.1), (46, r2.1), (45, r1.1), (44, x0), (0, x0)], r4.2⟩)
theorem F_crP9_eq (E : FnA) (n n0 : Nat) (x0 : AV) (bx : Bx) : evK Try.prog md0 E 48 none n n0 c_crP9 ⟨[(0, x0)], bx⟩ (fun s => some (.normal, s)) (fun i s => some (.exit i, s)) = F_crP9 E n n0 x0 bx := by kernel_rfl
theorem d_crP9 : drawsOk Try.prog md0 c_crP9 = true := by kernel_rfl
noncomputable def c_flP0 : Code := cs1 (Try.f10.body.getD .skip)
noncomputable def F_flP0 (_E : FnA) (_n _n0 : Nat) (x0 : AV) (bx : Bx) : Option (Ex × S) :=
  some (.normal, ⟨[(2, (.v (Go.Value.int Go.IntKind.i64 0))), (0, x0)], bx⟩)
theorem F_flP0_eq (E : FnA) (n n0 : Nat) (x0 : AV) (bx : Bx) : evK Try.prog md0 E 33 none n n0 c_flP0 ⟨[(0, x0)], bx⟩ (fun s => some (.normal, s)) (fun i s => some (.exit i, s)) = F_flP0 E n n0 x0 bx := by kernel_rfl
theorem d_flP0 : drawsOk Try.prog md0 c_flP0 = true := by kernel_rfl
noncomputable def c_flP1 : Code := cs1 (cs2 (Try.f10.body.getD .skip))
noncomputable def F_flP1 (E : FnA) (_n _n0 : Nat) (x0 : AV) (bx : Bx) : Option (Ex × S) :=
  (callA E md_disk_Disk_Flush bx 25 [x0, (.v (Go.Value.int Go.IntKind.i64 0))]).bind fun r1 =>
  some (.normal, ⟨[(3, r1.1), (6, r1.1), (5, x0), (0, x0)], r1.2⟩)
theorem F_flP1_eq (E : FnA) (n n0 : Nat) (x0 : AV) (bx : Bx) : evK Try.prog md_disk_Disk_Flush E 33 none n n0 c_flP1 ⟨[(0, x0)], bx⟩ (fun s => some (.normal, s)) (fun i s => some (.exit i, s)) = F_flP1 E n n0 x0 bx := by kernel_rfl
theorem d_flP1 : drawsOk Try.prog md_disk_Disk_Flush c_flP1 = true := by kernel_rfl
noncomputable def c_flP2 : Code := cs1 (cs2 (cs2 (Try.f10.body.getD .skip)))
noncomputable def F_flP2 (_E : FnA) (_n _n0 : Nat) (x0 x3 : AV) (bx : Bx) : Option (Ex × S) :=
  (pv bx (binA Try.prog .neq 26 x3 (.v (Go.Value.int Go.IntKind.i64 0)))).bind fun r1 =>
  condA r1.1 (some (.ret, ⟨[(2, x3), (9, x3), (8, r1.1), (7, x3), (0, x0), (3, x3)], r1.2⟩)) (some (.normal, ⟨[(8, r1.1), (7, x3), (0, x0), (3, x3)], r1.2⟩))
theorem F_flP2_eq (E : FnA) (n n0 : Nat) (x0 x3 : AV) (bx : Bx) : evK Try.prog md0 E 33 none n n0 c_flP2 ⟨[(0, x0), (3, x3)], bx⟩ (fun s => some (.normal, s)) (fun i s => some (.exit i, s)) = F_flP2 E n n0 x0 x3 bx := by kernel_rfl
theorem d_flP2 : drawsOk Try.prog md0 c_flP2 = true := by kernel_rfl
noncomputable def c_flR4 : Code := cs1 (cs1 (cs2 (cs2 (cs2 (Try.f10.body.getD .skip)))))
noncomputable def c_flBlk : Code := cs2 (cs1 (cs2 (cs2 (cs2 (Try.f10.body.getD .skip)))))
noncomputable def c_flB : Code := cl (cb (cs2 (cs1 (cs2 (cs2 (cs2 (Try.f10.body.getD .skip)))))))
noncomputable def c_flR5 : Code := cs1 (cl (cb (cs2 (cs1 (cs2 (cs2 (cs2 (Try.f10.body.getD .skip))))))))
noncomputable def c_flC : Code := cs1 (cs2 (cl (cb (cs2 (cs1 (cs2 (cs2 (cs2 (Try.f10.body.getD .skip)))))))))
noncomputable def c_flR6 : Code := cs1 (cb (cs2 (cs2 (cl (cb (cs2 (cs1 (cs2 (cs2 (cs2 (Try.f10.body.getD .skip)))))))))))
noncomputable def c_flR7 : Code := cs2 (cb (cs2 (cs2 (cl (cb (cs2 (cs1 (cs2 (cs2 (cs2 (Try.f10.body.getD .skip)))))))))))
noncomputable def F_flR7 (E : FnA) (_n _n0 : Nat) (x0 x3 x4 x14 : AV) (bx : Bx) : Option (Ex × S) :=
  (pv bx (nilA x0)).bind fun r1 =>
  (pv r1.2 (fieldAddrA Try.prog 63 r1.1 1)).bind fun r2 =>
  (pv r2.2 (loadA Try.prog 35 r2.2 r2.1)).bind fun r3 =>
  (callA E md_disk_Disk_Flush r3.2 26 [x0, x4]).bind fun r4 =>
  (pv r4.2 (indexAddrA Try.prog 35 r3.1 x4)).bind fun r5 =>
  (stA Try.prog 32 r5.2 r5.1 r4.1).bind fun r6 =>
  some (.normal, ⟨[(27, r5.1), (26, r4.1), (25, x4), (24, x0), (23, x4), (22, r3.1), (21, r2.1), (20, r1.1), (19, x0), (0, x0), (3, x3), (4, x4), (14, x14)], r6.2⟩)
theorem F_flR7_eq (E : FnA) (n n0 : Nat) (x0 x3 x4 x14 : AV) (bx : Bx) : evK Try.prog md_disk_Disk_Flush E 33 none n n0 c_flR7 ⟨[(0, x0), (3, x3), (4, x4), (14, x14)], bx⟩ (fun s => some (.normal, s)) (fun i s => some (.exit i, s)) = F_flR7 E n n0 x0 x3 x4 x14 bx := by kernel_rfl
theorem d_flR7 : drawsOk Try.prog md_disk_Disk_Flush c_flR7 = true := by kernel_rfl
noncomputable def c_flP8 : Code := cs2 (cs2 (cs2 (cs2 (Try.f10.body.getD .skip))))
noncomputable def F_flP8 (_E : FnA) (_n _n0 : Nat) (x0 x3 : AV) (bx : Bx) : Option (Ex × S) :=
  (pv bx (nilA x0)).bind fun r1 =>
  (pv r1.2 (fieldAddrA Try.prog 63 r1.1 2)).bind fun r2 =>
  (pv r2.2 (loadA Try.prog 61 r2.2 r2.1)).bind fun r3 =>
  (crV r3.2 r3.1).bind fun r4 =>
  some (.ret, ⟨[(2, x3), (32, x3), (31, r3.1), (30, r2.1), (29, r1.1), (28, x0), (0, x0), (3, x3)], r4.2⟩)
theorem F_flP8_eq (E : FnA) (n n0 : Nat) (x0 x3 : AV) (bx : Bx) : evK Try.prog md0 E 33 none n n0 c_flP8 ⟨[(0, x0), (3, x3)], bx⟩ (fun s => some (.normal, s)) (fun i s => some (.exit i, s)) = F_flP8 E n n0 x0 x3 bx := by kernel_rfl
theorem d_flP8 : drawsOk Try.prog md0 c_flP8 = true := by kernel_rfl
end Go.Sy.Pre
