/-
  The parts of maps.Clean, in the reader's words; no conditions.
-/
import Derived.Test.YtapjcmloaeaefaaPFn
import Derived.Test.YtapjcmloaeaefaaSyPiece
namespace Go.Sy.Pre
open Go.Proofs
def cs1 : Code → Code
  | .seq a _ => a
  | c => c
def cs2 : Code → Code
  | .seq _ b => b
  | c => c
def cb : Code → Code
  | .block _ c => c
  | c => c
def cl : Code → Code
  | .loop c => c
  | c => c
def opsC : Code → Array Oper
  | .region _ o _ => o
  | _ => #[]
noncomputable def c_clP0 : Code := cs1 (Try.f24.body.getD .skip)
noncomputable def F_clP0 (_E : FnA) (_n _n0 : Nat) (x0 x1 : AV) (bx : Bx) : Option (Ex × S) :=
  (boxA bx x0).bind fun r1 =>
  (boxA r1.2 x1).bind fun r2 =>
  some (.normal, ⟨[(4, (.v (Go.Value.bool false))), (3, r2.1), (2, r1.1), (0, x0), (1, x1)], r2.2⟩)
theorem F_clP0_eq (E : FnA) (n n0 : Nat) (x0 x1 : AV) (bx : Bx) : evK Try.prog md0 E 29 none n n0 c_clP0 ⟨[(0, x0), (1, x1)], bx⟩ (fun s => some (.normal, s)) (fun i s => some (.exit i, s)) = F_clP0 E n n0 x0 x1 bx := by kernel_rfl
theorem d_clP0 : drawsOk Try.prog md0 c_clP0 = true := by kernel_rfl
noncomputable def c_clP1 : Code := cs1 (cs2 (Try.f24.body.getD .skip))
noncomputable def F_clP1 (E : FnA) (_n _n0 : Nat) (x2 x3 x4 : AV) (bx : Bx) : Option (Ex × S) :=
  (pv bx (loadA Try.prog 25 bx x3)).bind fun r1 =>
  (callA E md0 r1.2 40 [r1.1]).bind fun r2 =>
  (pv r2.2 (binA Try.prog .neq 27 r2.1 (.v (Go.Value.int Go.IntKind.i64 0)))).bind fun r3 =>
  condA r3.1 (some (.ret, ⟨[(4, (.v (Go.Value.bool false))), (9, r3.1), (8, r2.1), (7, r1.1), (2, x2), (3, x3), (4, x4)], r3.2⟩)) (some (.normal, ⟨[(9, r3.1), (8, r2.1), (7, r1.1), (2, x2), (3, x3), (4, x4)], r3.2⟩))
theorem F_clP1_eq (E : FnA) (n n0 : Nat) (x2 x3 x4 : AV) (bx : Bx) : evK Try.prog md0 E 29 none n n0 c_clP1 ⟨[(2, x2), (3, x3), (4, x4)], bx⟩ (fun s => some (.normal, s)) (fun i s => some (.exit i, s)) = F_clP1 E n n0 x2 x3 x4 bx := by kernel_rfl
theorem d_clP1 : drawsOk Try.prog md0 c_clP1 = true := by kernel_rfl
noncomputable def c_clP3 : Code := cs1 (cs2 (cs2 (Try.f24.body.getD .skip)))
noncomputable def F_clP3 (_E : FnA) (_n _n0 : Nat) (x2 x3 x4 : AV) (bx : Bx) : Option (Ex × S) :=
  some (.normal, ⟨[(5, (.v (Go.Value.int Go.IntKind.i64 0))), (2, x2), (3, x3), (4, x4)], bx⟩)
theorem F_clP3_eq (E : FnA) (n n0 : Nat) (x2 x3 x4 : AV) (bx : Bx) : evK Try.prog md0 E 29 none n n0 c_clP3 ⟨[(2, x2), (3, x3), (4, x4)], bx⟩ (fun s => some (.normal, s)) (fun i s => some (.exit i, s)) = F_clP3 E n n0 x2 x3 x4 bx := by kernel_rfl
theorem d_clP3 : drawsOk Try.prog md0 c_clP3 = true := by kernel_rfl
noncomputable def c_clR4 : Code := cs1 (cs1 (cs2 (cs2 (cs2 (Try.f24.body.getD .skip)))))
noncomputable def c_clBlk : Code := cs2 (cs1 (cs2 (cs2 (cs2 (Try.f24.body.getD .skip)))))
noncomputable def c_clP8 : Code := cs2 (cs2 (cs2 (cs2 (Try.f24.body.getD .skip))))
noncomputable def F_clP8 (E : FnA) (_n _n0 : Nat) (x2 x5 : AV) (bx : Bx) : Option (Ex × S) :=
  (pv bx (sliceA Try.prog bx 23 x2 none none none)).bind fun r1 =>
  (callA E md0 r1.2 38 [r1.1, (.v (Go.Value.int Go.IntKind.i64 432))]).bind fun r2 =>
  (pv r2.2 (binA Try.prog .eql 3 x5 r2.1)).bind fun r3 =>
  some (.ret, ⟨[(4, r3.1), (28, r3.1), (27, r2.1), (26, r1.1), (25, x5), (2, x2), (5, x5)], r3.2⟩)
theorem F_clP8_eq (E : FnA) (n n0 : Nat) (x2 x5 : AV) (bx : Bx) : evK Try.prog md0 E 29 none n n0 c_clP8 ⟨[(2, x2), (5, x5)], bx⟩ (fun s => some (.normal, s)) (fun i s => some (.exit i, s)) = F_clP8 E n n0 x2 x5 bx := by kernel_rfl
theorem d_clP8 : drawsOk Try.prog md0 c_clP8 = true := by kernel_rfl
noncomputable def c_clB : Code := cl (cb (cs2 (cs1 (cs2 (cs2 (cs2 (Try.f24.body.getD .skip)))))))
noncomputable def c_clR5 : Code := cs1 (cl (cb (cs2 (cs1 (cs2 (cs2 (cs2 (Try.f24.body.getD .skip))))))))
noncomputable def c_clC : Code := cs1 (cs2 (cl (cb (cs2 (cs1 (cs2 (cs2 (cs2 (Try.f24.body.getD .skip)))))))))
noncomputable def c_clR6 : Code := cs1 (cb (cs2 (cs2 (cl (cb (cs2 (cs1 (cs2 (cs2 (cs2 (Try.f24.body.getD .skip)))))))))))
noncomputable def c_clR7 : Code := cs2 (cb (cs2 (cs2 (cl (cb (cs2 (cs1 (cs2 (cs2 (cs2 (Try.f24.body.getD .skip)))))))))))
noncomputable def F_clR7 (E : FnA) (_n _n0 : Nat) (x2 x3 x5 x6 x11 : AV) (bx : Bx) : Option (Ex × S) :=
  (pv bx (loadA Try.prog 23 bx x2)).bind fun r1 =>
  (callA E md0 r1.2 28 [r1.1, x6]).bind fun r2 =>
  (pv r2.2 (loadA Try.prog 25 r2.2 x3)).bind fun r3 =>
  (callA E md0 r3.2 26 [r3.1, x6]).bind fun r4 =>
  (callA E md0 r4.2 38 [r2.1, r4.1]).bind fun r5 =>
  (pv r5.2 (binA Try.prog .add 3 x5 r5.1)).bind fun r6 =>
  some (.normal, ⟨[(5, r6.1), (24, r6.1), (23, r5.1), (22, r4.1), (21, x6), (20, r3.1), (19, r2.1), (18, x6), (17, r1.1), (16, x5), (2, x2), (3, x3), (5, x5), (6, x6), (11, x11)], r6.2⟩)
theorem F_clR7_eq (E : FnA) (n n0 : Nat) (x2 x3 x5 x6 x11 : AV) (bx : Bx) : evK Try.prog md0 E 29 none n n0 c_clR7 ⟨[(2, x2), (3, x3), (5, x5), (6, x6), (11, x11)], bx⟩ (fun s => some (.normal, s)) (fun i s => some (.exit i, s)) = F_clR7 E n n0 x2 x3 x5 x6 x11 bx := by kernel_rfl
theorem d_clR7 : drawsOk Try.prog md0 c_clR7 = true := by kernel_rfl
end Go.Sy.Pre
