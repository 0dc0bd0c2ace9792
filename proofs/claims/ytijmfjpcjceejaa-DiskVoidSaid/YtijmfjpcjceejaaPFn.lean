/-
  What the functions under disk.Flush read as; no conditions.
-/
import Derived.Test.YtijmfjpcjceejaaSyStep
import Derived.Test.YtijmfjpcjceejaaPfUse
import Derived.Test.YtijmfjpcjceejaaProg
import Derived.KernelRfl
namespace Go.Sy.Pre
open Go.Proofs
def kpT : FuncId → Option (List Nat)
  | 27 => some [0, 1, 4, 5, 8]
  | 25 => some [0, 1, 4, 5, 10]
  | 26 => some [0, 1, 4, 5, 14]
  | _ => none
def md_disk_Disk_use : FuncId → Md
  | 40 => .objT
  | _ => .frozen
def md_disk_Disk_Flush : FuncId → Md
  | 25 => .objT
  | 26 => .objR
  | _ => .frozen
def mdT : FuncId → FuncId → Md
  | 25 => md_disk_Disk_use
  | 10 => md_disk_Disk_Flush
  | _ => md0
noncomputable def cx0 : Cx := { P := Try.prog, md := mdT, kp := kpT }
noncomputable def ext0 : FnA := extC
theorem ext0_ok (f : FuncId) (args : List AV) (bx : Bx) (r : AV) (bx' : Bx) (h : ext0 f args bx = some (r, bx')) : Sound cx0.P f args bx r bx' := extC_ok f args bx r bx' h
/-- (*scupper/disk.Disk).may -/
def kp_disk_Disk_may : Option (List Nat) := some [0, 1, 4, 5, 8]
noncomputable def c_disk_Disk_may : Code := Try.f27.body.getD .skip
noncomputable def F_disk_Disk_may (_E : FnA) (_n _n0 : Nat) (a0 a1 : AV) (bx : Bx) : Option (Ex × S) :=
  (pv bx (binA Try.prog .eql 25 a0 (.v (Go.Value.pointer none)))).bind fun r1 =>
  condA r1.1 (some (.ret, ⟨[(4, (.v (Go.Value.int Go.IntKind.i64 1))), (5, r1.1), (4, (.v (Go.Value.int Go.IntKind.i64 0))), (0, a0), (1, a1)], r1.2⟩)) ((pv r1.2 (binA Try.prog .lss 3 a1 (.v (Go.Value.int Go.IntKind.i64 0)))).bind fun r2 =>
  (gsel false r2.2 (some (a1, r2.2)) r2.1).bind fun r3 =>
  (gsel false r3.2 (some (a0, r3.2)) r2.1).bind fun r4 =>
  (gsel false r4.2 (pv r4.2 (nilA r4.1)) r2.1).bind fun r5 =>
  (gsel false r5.2 (pv r5.2 (fieldAddrA Try.prog 63 r5.1 1)) r2.1).bind fun r6 =>
  (gsel false r6.2 (pv r6.2 (loadA Try.prog 35 r6.2 r6.1)) r2.1).bind fun r7 =>
  (gsel false r7.2 (pv r7.2 (lenA Try.prog 35 r7.1)) r2.1).bind fun r8 =>
  (gsel false r8.2 (pv r8.2 (binA Try.prog .geq 3 r3.1 r8.1)) r2.1).bind fun r9 =>
  (pv r9.2 (pickA r2.1 (.v (Go.Value.bool true)) r9.1)).bind fun r10 =>
  condA r10.1 (some (.ret, ⟨[(4, (.v (Go.Value.int Go.IntKind.i64 2))), (8, r10.1), (5, r1.1), (4, (.v (Go.Value.int Go.IntKind.i64 0))), (0, a0), (1, a1)], r10.2⟩)) (some (.ret, ⟨[(4, (.v (Go.Value.int Go.IntKind.i64 0))), (8, r10.1), (5, r1.1), (4, (.v (Go.Value.int Go.IntKind.i64 0))), (0, a0), (1, a1)], r10.2⟩)))
theorem c_disk_Disk_may_eq : Try.f27.body = some c_disk_Disk_may := by kernel_rfl
theorem d_disk_Disk_may : drawsOk Try.prog md0 c_disk_Disk_may = true := by kernel_rfl
theorem F_disk_Disk_may_eq (E : FnA) (n n0 : Nat) (a0 a1 : AV) (bx : Bx) : evK Try.prog md0 E 20 kp_disk_Disk_may n n0 c_disk_Disk_may ⟨[(0, a0), (1, a1)], bx⟩ (fun s => some (.normal, s)) (fun i s => some (.exit i, s)) = F_disk_Disk_may E n n0 a0 a1 bx := by kernel_rfl

theorem E_disk_Disk_may (n : Nat) (a0 a1 : AV) (bx : Bx) : evFn cx0 ext0 (n + 1) 27 [a0, a1] bx = fin Try.prog [.tmp 4] (F_disk_Disk_may (evFn cx0 ext0 n) n bx.length a0 a1 bx) := by
  rw [evFn_eq2 (cx := cx0) (c := c_disk_Disk_may) rfl Try.func27 c_disk_Disk_may_eq (of_decide_eq_true (by kernel_rfl)) d_disk_Disk_may (of_decide_eq_true (by kernel_rfl))]
  exact congrArg (fin Try.prog [.tmp 4]) (F_disk_Disk_may_eq (evFn cx0 ext0 n) n bx.length a0 a1 bx)

/-- (*scupper/disk.Disk).use -/
def kp_disk_Disk_use : Option (List Nat) := some [0, 1, 4, 5, 10]
noncomputable def c_disk_Disk_use : Code := Try.f25.body.getD .skip
noncomputable def F_disk_Disk_use (E : FnA) (_n _n0 : Nat) (a0 a1 : AV) (bx : Bx) : Option (Ex × S) :=
  (callA E md_disk_Disk_use bx 27 [a0, a1]).bind fun r1 =>
  (pv r1.2 (binA Try.prog .neq 26 r1.1 (.v (Go.Value.int Go.IntKind.i64 0)))).bind fun r2 =>
  condA r2.1 (some (.ret, ⟨[(4, r1.1), (10, r2.1), (5, r1.1), (4, (.v (Go.Value.int Go.IntKind.i64 0))), (0, a0), (1, a1)], r2.2⟩)) ((pv r2.2 (nilA a0)).bind fun r3 =>
  (pv r3.2 (fieldAddrA Try.prog 63 r3.1 0)).bind fun r4 =>
  (pv r4.2 (loadA Try.prog 47 r4.2 r4.1)).bind fun r5 =>
  (callA E md_disk_Disk_use r5.2 40 [r5.1]).bind fun r6 =>
  some (.ret, ⟨[(4, r6.1), (10, r2.1), (5, r1.1), (4, (.v (Go.Value.int Go.IntKind.i64 0))), (0, a0), (1, a1)], r6.2⟩))
theorem c_disk_Disk_use_eq : Try.f25.body = some c_disk_Disk_use := by kernel_rfl
theorem d_disk_Disk_use : drawsOk Try.prog md_disk_Disk_use c_disk_Disk_use = true := by kernel_rfl
theorem F_disk_Disk_use_eq (E : FnA) (n n0 : Nat) (a0 a1 : AV) (bx : Bx) : evK Try.prog md_disk_Disk_use E 17 kp_disk_Disk_use n n0 c_disk_Disk_use ⟨[(0, a0), (1, a1)], bx⟩ (fun s => some (.normal, s)) (fun i s => some (.exit i, s)) = F_disk_Disk_use E n n0 a0 a1 bx := by kernel_rfl

theorem E_disk_Disk_use (n : Nat) (a0 a1 : AV) (bx : Bx) : evFn cx0 ext0 (n + 1) 25 [a0, a1] bx = fin Try.prog [.tmp 4] (F_disk_Disk_use (evFn cx0 ext0 n) n bx.length a0 a1 bx) := by
  rw [evFn_eq2 (cx := cx0) (c := c_disk_Disk_use) rfl Try.func25 c_disk_Disk_use_eq (of_decide_eq_true (by kernel_rfl)) d_disk_Disk_use (of_decide_eq_true (by kernel_rfl))]
  exact congrArg (fin Try.prog [.tmp 4]) (F_disk_Disk_use_eq (evFn cx0 ext0 n) n bx.length a0 a1 bx)

/-- (*scupper/disk.Disk).shows -/
def kp_disk_Disk_shows : Option (List Nat) := some [0, 1, 4, 5, 14]
noncomputable def c_disk_Disk_shows : Code := Try.f26.body.getD .skip
noncomputable def F_disk_Disk_shows (_E : FnA) (_n _n0 : Nat) (a0 a1 : AV) (bx : Bx) : Option (Ex × S) :=
  (allocA Try.prog bx 32).bind fun r1 =>
  (pv r1.2 (nilA a0)).bind fun r2 =>
  (pv r2.2 (fieldAddrA Try.prog 63 r2.1 2)).bind fun r3 =>
  (pv r3.2 (loadA Try.prog 61 r3.2 r3.1)).bind fun r4 =>
  (pv r4.2 (lookA Try.prog r4.2 61 r4.1 a1 false)).bind fun r5 =>
  (pv r5.2 (lenA Try.prog 35 r5.1)).bind fun r6 =>
  (pv r6.2 (binA Try.prog .gtr 3 r6.1 (.v (Go.Value.int Go.IntKind.i64 0)))).bind fun r7 =>
  condA r7.1 ((pv r7.2 (lenA Try.prog 35 r5.1)).bind fun r8 =>
  (pv r8.2 (binA Try.prog .sub 3 r8.1 (.v (Go.Value.int Go.IntKind.i64 1)))).bind fun r9 =>
  (pv r9.2 (indexAddrA Try.prog 35 r5.1 r9.1)).bind fun r10 =>
  (pv r10.2 (loadA Try.prog 32 r10.2 r10.1)).bind fun r11 =>
  (stA Try.prog 32 r11.2 r1.1 r11.1).bind fun r12 =>
  some (.ret, ⟨[(14, r7.1), (5, r5.1), (4, r1.1), (0, a0), (1, a1)], r12.2⟩)) ((pv r7.2 (nilA a0)).bind fun r13 =>
  (pv r13.2 (fieldAddrA Try.prog 63 r13.1 1)).bind fun r14 =>
  (pv r14.2 (loadA Try.prog 35 r14.2 r14.1)).bind fun r15 =>
  (pv r15.2 (indexAddrA Try.prog 35 r15.1 a1)).bind fun r16 =>
  (pv r16.2 (loadA Try.prog 32 r16.2 r16.1)).bind fun r17 =>
  (stA Try.prog 32 r17.2 r1.1 r17.1).bind fun r18 =>
  some (.ret, ⟨[(14, r7.1), (5, r5.1), (4, r1.1), (0, a0), (1, a1)], r18.2⟩))
theorem c_disk_Disk_shows_eq : Try.f26.body = some c_disk_Disk_shows := by kernel_rfl
theorem d_disk_Disk_shows : drawsOk Try.prog md0 c_disk_Disk_shows = true := by kernel_rfl
theorem F_disk_Disk_shows_eq (E : FnA) (n n0 : Nat) (a0 a1 : AV) (bx : Bx) : evK Try.prog md0 E 28 kp_disk_Disk_shows n n0 c_disk_Disk_shows ⟨[(0, a0), (1, a1)], bx⟩ (fun s => some (.normal, s)) (fun i s => some (.exit i, s)) = F_disk_Disk_shows E n n0 a0 a1 bx := by kernel_rfl

theorem E_disk_Disk_shows (n : Nat) (a0 a1 : AV) (bx : Bx) : evFn cx0 ext0 (n + 1) 26 [a0, a1] bx = fin Try.prog [.cell 4 32] (F_disk_Disk_shows (evFn cx0 ext0 n) n bx.length a0 a1 bx) := by
  rw [evFn_eq2 (cx := cx0) (c := c_disk_Disk_shows) rfl Try.func26 c_disk_Disk_shows_eq (of_decide_eq_true (by kernel_rfl)) d_disk_Disk_shows (of_decide_eq_true (by kernel_rfl))]
  exact congrArg (fin Try.prog [.cell 4 32]) (F_disk_Disk_shows_eq (evFn cx0 ext0 n) n bx.length a0 a1 bx)

end Go.Sy.Pre
