/-
  What the functions under this seat's laws read as, in the reader's words; no conditions.
-/
import Derived.Test.YtjpbamjmkjmfjaaSyStep
import Derived.Test.YtjpbamjmkjmfjaaProg
import Derived.KernelRfl
import Derived.Test.YtjpbamjmkjmfjaaPfUse
namespace Go.Sy
open Go.Proofs
def kpT : FuncId → Option (List Nat)
  | 3 => some [0, 1, 2, 6, 7, 8, 9, 10, 12, 13, 14, 15, 16, 17, 18, 19, 20, 22, 28, 36, 75, 85, 90]
  | 4 => some [0, 1, 4, 5, 6, 7, 8, 9, 11]
  | 5 => some [0, 1, 2, 3, 4, 5, 6, 7]
  | 6 => some [0]
  | 7 => some [0, 2]
  | 8 => some [0, 2]
  | 9 => some [0, 1, 4, 5, 6, 7, 10, 25]
  | 10 => some [0, 1, 4, 6]
  | 11 => some [0, 2, 3, 4, 7]
  | 12 => some [0, 1, 4, 10]
  | 13 => some [0, 3]
  | 14 => some [0, 1, 4, 5]
  | 15 => some [0, 1, 4, 6]
  | 16 => some [0, 1, 4, 5, 6, 11]
  | 17 => some [0, 1, 2, 6, 7, 12]
  | 18 => some [0]
  | 19 => some [0, 2]
  | 20 => some [0, 1, 2, 3, 4, 6, 7, 15, 16, 17, 18, 27]
  | 21 => some [0, 2, 3, 4]
  | 22 => some [0, 1, 4, 5, 8]
  | 23 => some [0, 1]
  | 24 => some [0, 1]
  | 26 => some [0, 2, 3, 4, 5, 6]
  | 27 => some [0, 2, 3, 5, 7, 8, 9, 10]
  | 29 => some [0]
  | 30 => some [0, 1, 2, 4, 6, 7, 8, 9, 10]
  | 31 => some [0, 1, 2]
  | 32 => some [0, 1, 4, 5, 6, 7, 8]
  | _ => none
def md_l05_NvramKeeps : FuncId → Md
  | 6 => .objK
  | 7 => .objK
  | 8 => .objT
  | 9 => .objT
  | 11 => .objR
  | 12 => .objT
  | 13 => .objT
  | 14 => .objR
  | 15 => .objT
  | 16 => .objR
  | 17 => .objT
  | 20 => .objT
  | 21 => .objR
  | 22 => .objR
  | 23 => .objR
  | 24 => .objR
  | 25 => .objT
  | _ => .frozen
def md_l05_NvramVoid : FuncId → Md
  | 6 => .objK
  | 7 => .objK
  | 8 => .objT
  | 9 => .objT
  | 11 => .objR
  | 12 => .objT
  | 13 => .objT
  | 14 => .objR
  | 15 => .objT
  | 16 => .objR
  | 17 => .objT
  | 20 => .objT
  | 21 => .objR
  | 22 => .objR
  | 23 => .objR
  | 24 => .objR
  | 25 => .objT
  | _ => .frozen
def md_l05_works : FuncId → Md
  | 6 => .objK
  | 7 => .objK
  | 8 => .objT
  | 9 => .objT
  | 11 => .objR
  | 12 => .objT
  | 13 => .objT
  | 14 => .objR
  | 15 => .objT
  | 16 => .objR
  | 17 => .objT
  | 20 => .objT
  | 21 => .objR
  | 22 => .objR
  | 23 => .objR
  | 24 => .objR
  | 25 => .objT
  | _ => .frozen
def md_nvram_Words_Clear : FuncId → Md
  | 8 => .objT
  | 9 => .objT
  | 11 => .objR
  | 12 => .objT
  | 13 => .objT
  | 14 => .objR
  | 15 => .objT
  | 16 => .objR
  | 17 => .objT
  | 20 => .objT
  | 21 => .objR
  | 22 => .objR
  | 23 => .objR
  | 24 => .objR
  | 25 => .objT
  | _ => .frozen
def md_nvram_Words_Mark : FuncId → Md
  | 8 => .objT
  | 9 => .objT
  | 11 => .objR
  | 12 => .objT
  | 13 => .objT
  | 14 => .objR
  | 15 => .objT
  | 16 => .objR
  | 17 => .objT
  | 20 => .objT
  | 21 => .objR
  | 22 => .objR
  | 23 => .objR
  | 24 => .objR
  | 25 => .objT
  | _ => .frozen
def md_nvram_Words_Says : FuncId → Md
  | 8 => .objT
  | 9 => .objT
  | 11 => .objR
  | 12 => .objT
  | 13 => .objT
  | 14 => .objR
  | 15 => .objT
  | 16 => .objR
  | 17 => .objT
  | 20 => .objT
  | 21 => .objR
  | 22 => .objR
  | 23 => .objR
  | 24 => .objR
  | 25 => .objT
  | _ => .frozen
def md_nvram_Words_Marked : FuncId → Md
  | 8 => .objT
  | 9 => .objT
  | 11 => .objR
  | 12 => .objT
  | 13 => .objT
  | 14 => .objR
  | 15 => .objT
  | 16 => .objR
  | 17 => .objT
  | 20 => .objT
  | 21 => .objR
  | 22 => .objR
  | 23 => .objR
  | 24 => .objR
  | 25 => .objT
  | _ => .frozen
def md_nvram_Words_Keep : FuncId → Md
  | 8 => .objT
  | 9 => .objT
  | 11 => .objR
  | 12 => .objT
  | 13 => .objT
  | 14 => .objR
  | 15 => .objT
  | 16 => .objR
  | 17 => .objT
  | 20 => .objT
  | 21 => .objR
  | 22 => .objR
  | 23 => .objR
  | 24 => .objR
  | 25 => .objT
  | _ => .frozen
def md_nvram_Words_Get : FuncId → Md
  | 8 => .objT
  | 9 => .objT
  | 11 => .objR
  | 12 => .objT
  | 13 => .objT
  | 14 => .objR
  | 15 => .objT
  | 16 => .objR
  | 17 => .objT
  | 20 => .objT
  | 21 => .objR
  | 22 => .objR
  | 23 => .objR
  | 24 => .objR
  | 25 => .objT
  | _ => .frozen
def md_nvram_Words_Poke : FuncId → Md
  | 8 => .objT
  | 9 => .objT
  | 11 => .objR
  | 12 => .objT
  | 13 => .objT
  | 14 => .objR
  | 15 => .objT
  | 16 => .objR
  | 17 => .objT
  | 20 => .objT
  | 21 => .objR
  | 22 => .objR
  | 23 => .objR
  | 24 => .objR
  | 25 => .objT
  | _ => .frozen
def md_nvram_Words_to : FuncId → Md
  | 8 => .objT
  | 9 => .objT
  | 11 => .objR
  | 12 => .objT
  | 13 => .objT
  | 14 => .objR
  | 15 => .objT
  | 16 => .objR
  | 17 => .objT
  | 20 => .objT
  | 21 => .objR
  | 22 => .objR
  | 23 => .objR
  | 24 => .objR
  | 25 => .objT
  | _ => .frozen
def md_nvram_Words_total : FuncId → Md
  | 8 => .objT
  | 9 => .objT
  | 11 => .objR
  | 12 => .objT
  | 13 => .objT
  | 14 => .objR
  | 15 => .objT
  | 16 => .objR
  | 17 => .objT
  | 20 => .objT
  | 21 => .objR
  | 22 => .objR
  | 23 => .objR
  | 24 => .objR
  | 25 => .objT
  | _ => .frozen
def md_nvram_Words_word : FuncId → Md
  | 8 => .objT
  | 9 => .objT
  | 11 => .objR
  | 12 => .objT
  | 13 => .objT
  | 14 => .objR
  | 15 => .objT
  | 16 => .objR
  | 17 => .objT
  | 20 => .objT
  | 21 => .objR
  | 22 => .objR
  | 23 => .objR
  | 24 => .objR
  | 25 => .objT
  | _ => .frozen
def md_nvram_Words_to_1 : FuncId → Md
  | 8 => .objT
  | 9 => .objT
  | 11 => .objR
  | 12 => .objT
  | 13 => .objT
  | 14 => .objR
  | 15 => .objT
  | 16 => .objR
  | 17 => .objT
  | 20 => .objT
  | 21 => .objR
  | 22 => .objR
  | 23 => .objR
  | 24 => .objR
  | 25 => .objT
  | _ => .frozen
def md_nvram_Words_to_2 : FuncId → Md
  | 8 => .objT
  | 9 => .objT
  | 11 => .objR
  | 12 => .objT
  | 13 => .objT
  | 14 => .objR
  | 15 => .objT
  | 16 => .objR
  | 17 => .objT
  | 20 => .objT
  | 21 => .objR
  | 22 => .objR
  | 23 => .objR
  | 24 => .objR
  | 25 => .objT
  | _ => .frozen
def mdT : FuncId → FuncId → Md
  | 3 => md_l05_NvramKeeps
  | 4 => md_l05_NvramVoid
  | 5 => md_l05_works
  | 8 => md_nvram_Words_Clear
  | 9 => md_nvram_Words_Mark
  | 11 => md_nvram_Words_Says
  | 14 => md_nvram_Words_Marked
  | 15 => md_nvram_Words_Keep
  | 16 => md_nvram_Words_Get
  | 17 => md_nvram_Words_Poke
  | 20 => md_nvram_Words_to
  | 21 => md_nvram_Words_total
  | 22 => md_nvram_Words_word
  | 23 => md_nvram_Words_to_1
  | 24 => md_nvram_Words_to_2
  | _ => md0
noncomputable def cx0 : Cx := { P := Try.prog, md := mdT, kp := kpT }
noncomputable def ext0 : FnA := extC
theorem ext0_ok (f : FuncId) (args : List AV) (bx : Bx) (r : AV) (bx' : Bx) (h : ext0 f args bx = some (r, bx')) : Sound cx0.P f args bx r bx' := extC_ok f args bx r bx' h
/-- scupper/scupperlaw05.NvramKeeps -/
def kp_l05_NvramKeeps : Option (List Nat) := some [0, 1, 2, 6, 7, 8, 9, 10, 12, 13, 14, 15, 16, 17, 18, 19, 20, 22, 28, 36, 75, 85, 90]
noncomputable def c_l05_NvramKeeps : Code := Try.f3.body.getD .skip
noncomputable def L_l05_NvramKeeps_0 (E : FnA) (_n _n0 : Nat) (s : S) : Option (Ex × S) :=
  (pv s.bx (lenA Try.prog 22 (get s.env 0))).bind fun r17 =>
  (pv r17.2 (binA Try.prog .lss 3 (get s.env 9) r17.1)).bind fun r18 =>
  (gsel true r18.2 (some ((get s.env 9), r18.2)) r18.1).bind fun r19 =>
  (gsel true r19.2 (pv r19.2 (binA Try.prog .lss 3 r19.1 (.v (Go.Value.int Go.IntKind.i64 20)))) r18.1).bind fun r20 =>
  (pv r20.2 (pickA r18.1 r20.1 (.v (Go.Value.bool false)))).bind fun r21 =>
  condA r21.1 ((pv r21.2 (indexAddrA Try.prog 22 (get (prune kp_l05_NvramKeeps s.env) 0) (get (prune kp_l05_NvramKeeps s.env) 9))).bind fun r22 =>
  (pv r22.2 (loadA Try.prog 3 r22.2 r22.1)).bind fun r23 =>
  (callA E md_l05_NvramKeeps r23.2 10 [r23.1, (.v (Go.Value.int Go.IntKind.i64 8))]).bind fun r24 =>
  (callA E md_l05_NvramKeeps r24.2 9 [(get (prune kp_l05_NvramKeeps s.env) 8), r24.1]).bind fun r25 =>
  (pv r25.2 (binA Try.prog .add 3 (get (prune kp_l05_NvramKeeps (prune kp_l05_NvramKeeps s.env)) 9) (.v (Go.Value.int Go.IntKind.i64 1)))).bind fun r26 =>
  some (.normal, ⟨((9, r26.1) :: (36, r21.1) :: (prune kp_l05_NvramKeeps (prune kp_l05_NvramKeeps (prune kp_l05_NvramKeeps s.env)))), r26.2⟩)) (some (.exit 0, ⟨((36, r21.1) :: (prune kp_l05_NvramKeeps s.env)), r21.2⟩))
noncomputable def B_l05_NvramKeeps_0 (E : FnA) (_n _n0 : Nat) (x9 x28 x8 x7 x22 x6 x0 x1 x2 : AV) (y : Bx) : Option (Ex × S) :=
  (pv y (lenA Try.prog 22 x0)).bind fun r7 =>
  (pv r7.2 (binA Try.prog .lss 3 x9 r7.1)).bind fun r8 =>
  (gsel true r8.2 (some (x9, r8.2)) r8.1).bind fun r9 =>
  (gsel true r9.2 (pv r9.2 (binA Try.prog .lss 3 r9.1 (.v (Go.Value.int Go.IntKind.i64 20)))) r8.1).bind fun r10 =>
  (pv r10.2 (pickA r8.1 r10.1 (.v (Go.Value.bool false)))).bind fun r11 =>
  condA r11.1 ((pv r11.2 (indexAddrA Try.prog 22 x0 x9)).bind fun r12 =>
  (pv r12.2 (loadA Try.prog 3 r12.2 r12.1)).bind fun r13 =>
  (callA E md_l05_NvramKeeps r13.2 10 [r13.1, (.v (Go.Value.int Go.IntKind.i64 8))]).bind fun r14 =>
  (callA E md_l05_NvramKeeps r14.2 9 [x8, r14.1]).bind fun r15 =>
  (pv r15.2 (binA Try.prog .add 3 x9 (.v (Go.Value.int Go.IntKind.i64 1)))).bind fun r16 =>
  some (.normal, ⟨[(9, r16.1), (36, r11.1), (9, x9), (28, x28), (8, x8), (7, x7), (22, x22), (6, x6), (0, x0), (1, x1), (2, x2)], r16.2⟩)) (some (.exit 0, ⟨[(36, r11.1), (9, x9), (28, x28), (8, x8), (7, x7), (22, x22), (6, x6), (0, x0), (1, x1), (2, x2)], r11.2⟩))
theorem L_l05_NvramKeeps_0_lit {E : FnA} {n n0 : Nat} {x9 x28 x8 x7 x22 x6 x0 x1 x2 : AV} {y : Bx} {Q : Ex → S → Prop} (h : Ends (B_l05_NvramKeeps_0 E n n0 x9 x28 x8 x7 x22 x6 x0 x1 x2 y) Q) : Ends (L_l05_NvramKeeps_0 E n n0 ⟨[(9, x9), (28, x28), (8, x8), (7, x7), (22, x22), (6, x6), (0, x0), (1, x1), (2, x2)], y⟩) Q := by
  rw [show L_l05_NvramKeeps_0 E n n0 ⟨[(9, x9), (28, x28), (8, x8), (7, x7), (22, x22), (6, x6), (0, x0), (1, x1), (2, x2)], y⟩ = B_l05_NvramKeeps_0 E n n0 x9 x28 x8 x7 x22 x6 x0 x1 x2 y by kernel_rfl]
  exact h
noncomputable def K_l05_NvramKeeps_0 (E : FnA) (_n _n0 : Nat) (t : S) : Option (Ex × S) :=
  (callA E md_l05_NvramKeeps t.bx 11 [(get t.env 8)]).bind fun r80 =>
  (pv r80.2 (tupA r80.1 0)).bind fun r81 =>
  (pv r81.2 (tupA r80.1 1)).bind fun r82 =>
  (pv r82.2 (binA Try.prog .rem 5 (get (prune kp_l05_NvramKeeps t.env) 2) (.v (Go.Value.int Go.IntKind.u8 5)))).bind fun r83 =>
  (convA Try.prog r83.2 5 3 r83.1).bind fun r84 =>
  (callA E md_l05_NvramKeeps r84.2 12 [(get (prune kp_l05_NvramKeeps t.env) 7), r84.1]).bind fun r85 =>
  (callA E md_l05_NvramKeeps r85.2 10 [(get (prune kp_l05_NvramKeeps (prune kp_l05_NvramKeeps t.env)) 1), (.v (Go.Value.int Go.IntKind.i64 8))]).bind fun r86 =>
  (callA E md_l05_NvramKeeps r86.2 9 [(get (prune kp_l05_NvramKeeps (prune kp_l05_NvramKeeps t.env)) 8), r86.1]).bind fun r87 =>
  (callA E md_l05_NvramKeeps r87.2 11 [(get (prune kp_l05_NvramKeeps (prune kp_l05_NvramKeeps (prune kp_l05_NvramKeeps t.env))) 8)]).bind fun r88 =>
  (pv r88.2 (tupA r88.1 0)).bind fun r89 =>
  (pv r89.2 (tupA r88.1 1)).bind fun r90 =>
  (callA E md_l05_NvramKeeps r90.2 13 [(get (prune kp_l05_NvramKeeps (prune kp_l05_NvramKeeps (prune kp_l05_NvramKeeps (prune kp_l05_NvramKeeps t.env)))) 7)]).bind fun r91 =>
  (pv r91.2 (binA Try.prog .eql 28 r87.1 (.v (Go.Value.int Go.IntKind.i64 0)))).bind fun r92 =>
  (gsel true r92.2 (some ((get (prune kp_l05_NvramKeeps (prune kp_l05_NvramKeeps (prune kp_l05_NvramKeeps (prune kp_l05_NvramKeeps (prune kp_l05_NvramKeeps t.env))))) 8), r92.2)) r92.1).bind fun r93 =>
  (gsel true r93.2 (some ((get (prune kp_l05_NvramKeeps (prune kp_l05_NvramKeeps (prune kp_l05_NvramKeeps (prune kp_l05_NvramKeeps (prune kp_l05_NvramKeeps t.env))))) 1), r93.2)) r92.1).bind fun r94 =>
  (gsel true r94.2 (callA E md_l05_NvramKeeps r94.2 10 [r94.1, (.v (Go.Value.int Go.IntKind.i64 8))]) r92.1).bind fun r95 =>
  (gsel true r95.2 (callA E md_l05_NvramKeeps r95.2 14 [r93.1, r95.1]) r92.1).bind fun r96 =>
  (gsel true r96.2 (pv r96.2 (unA .not r96.1)) r92.1).bind fun r97 =>
  (pv r97.2 (pickA r92.1 r97.1 (.v (Go.Value.bool false)))).bind fun r98 =>
  condA r98.1 (some (.ret, ⟨((6, (.v (Go.Value.bool false))) :: (75, r98.1) :: (14, r90.1) :: (13, r89.1) :: (12, r87.1) :: (10, r81.1) :: (prune kp_l05_NvramKeeps (prune kp_l05_NvramKeeps (prune kp_l05_NvramKeeps (prune kp_l05_NvramKeeps (prune kp_l05_NvramKeeps (prune kp_l05_NvramKeeps (prune kp_l05_NvramKeeps t.env)))))))), r98.2⟩)) ((pv r98.2 (binA Try.prog .neq 28 r87.1 (.v (Go.Value.int Go.IntKind.i64 0)))).bind fun r99 =>
  (gsel true r99.2 (some (r90.1, r99.2)) r99.1).bind fun r100 =>
  (pv r100.2 (pickA r99.1 r100.1 (.v (Go.Value.bool false)))).bind fun r101 =>
  (gsel true r101.2 (some (r89.1, r101.2)) r101.1).bind fun r102 =>
  (gsel true r102.2 (some (r81.1, r102.2)) r101.1).bind fun r103 =>
  (gsel true r103.2 (pv r103.2 (binA Try.prog .neq 32 r102.1 r103.1)) r101.1).bind fun r104 =>
  (pv r104.2 (pickA r101.1 r104.1 (.v (Go.Value.bool false)))).bind fun r105 =>
  condA r105.1 (some (.ret, ⟨((6, (.v (Go.Value.bool true))) :: (85, r105.1) :: (75, r98.1) :: (14, r90.1) :: (13, r89.1) :: (12, r87.1) :: (10, r81.1) :: (prune kp_l05_NvramKeeps (prune kp_l05_NvramKeeps (prune kp_l05_NvramKeeps (prune kp_l05_NvramKeeps (prune kp_l05_NvramKeeps (prune kp_l05_NvramKeeps (prune kp_l05_NvramKeeps (prune kp_l05_NvramKeeps t.env))))))))), r105.2⟩)) ((pv r105.2 (binA Try.prog .and 32 r89.1 r81.1)).bind fun r106 =>
  (pv r106.2 (binA Try.prog .neq 32 r106.1 r81.1)).bind fun r107 =>
  condA r107.1 (some (.ret, ⟨((6, (.v (Go.Value.bool false))) :: (90, r107.1) :: (85, r105.1) :: (75, r98.1) :: (14, r90.1) :: (13, r89.1) :: (12, r87.1) :: (10, r81.1) :: (prune kp_l05_NvramKeeps (prune kp_l05_NvramKeeps (prune kp_l05_NvramKeeps (prune kp_l05_NvramKeeps (prune kp_l05_NvramKeeps (prune kp_l05_NvramKeeps (prune kp_l05_NvramKeeps (prune kp_l05_NvramKeeps (prune kp_l05_NvramKeeps t.env)))))))))), r107.2⟩)) ((callA E md_l05_NvramKeeps r107.2 8 [(get (prune kp_l05_NvramKeeps (prune kp_l05_NvramKeeps (prune kp_l05_NvramKeeps (prune kp_l05_NvramKeeps (prune kp_l05_NvramKeeps (prune kp_l05_NvramKeeps (prune kp_l05_NvramKeeps (prune kp_l05_NvramKeeps t.env)))))))) 8)]).bind fun r108 =>
  (callA E md_l05_NvramKeeps r108.2 11 [(get (prune kp_l05_NvramKeeps (prune kp_l05_NvramKeeps (prune kp_l05_NvramKeeps (prune kp_l05_NvramKeeps (prune kp_l05_NvramKeeps (prune kp_l05_NvramKeeps (prune kp_l05_NvramKeeps (prune kp_l05_NvramKeeps (prune kp_l05_NvramKeeps t.env))))))))) 8)]).bind fun r109 =>
  (pv r109.2 (tupA r109.1 0)).bind fun r110 =>
  (pv r110.2 (tupA r109.1 1)).bind fun r111 =>
  (convA Try.prog r111.2 5 32 (get (prune kp_l05_NvramKeeps (prune kp_l05_NvramKeeps (prune kp_l05_NvramKeeps (prune kp_l05_NvramKeeps (prune kp_l05_NvramKeeps (prune kp_l05_NvramKeeps (prune kp_l05_NvramKeeps (prune kp_l05_NvramKeeps (prune kp_l05_NvramKeeps (prune kp_l05_NvramKeeps t.env)))))))))) 2)).bind fun r112 =>
  (callA E md_l05_NvramKeeps r112.2 15 [(get (prune kp_l05_NvramKeeps (prune kp_l05_NvramKeeps (prune kp_l05_NvramKeeps (prune kp_l05_NvramKeeps (prune kp_l05_NvramKeeps (prune kp_l05_NvramKeeps (prune kp_l05_NvramKeeps (prune kp_l05_NvramKeeps (prune kp_l05_NvramKeeps (prune kp_l05_NvramKeeps t.env)))))))))) 8), r112.1]).bind fun r113 =>
  (callA E md_l05_NvramKeeps r113.2 11 [(get (prune kp_l05_NvramKeeps (prune kp_l05_NvramKeeps (prune kp_l05_NvramKeeps (prune kp_l05_NvramKeeps (prune kp_l05_NvramKeeps (prune kp_l05_NvramKeeps (prune kp_l05_NvramKeeps (prune kp_l05_NvramKeeps (prune kp_l05_NvramKeeps (prune kp_l05_NvramKeeps (prune kp_l05_NvramKeeps t.env))))))))))) 8)]).bind fun r114 =>
  (pv r114.2 (tupA r114.1 0)).bind fun r115 =>
  (pv r115.2 (tupA r114.1 1)).bind fun r116 =>
  (pv r116.2 (binA Try.prog .eql 28 r108.1 (.v (Go.Value.int Go.IntKind.i64 0)))).bind fun r117 =>
  (gsel true r117.2 (some (r110.1, r117.2)) r117.1).bind fun r118 =>
  (gsel true r118.2 (pv r118.2 (binA Try.prog .eql 32 r118.1 (.v (Go.Value.int Go.IntKind.u32 0)))) r117.1).bind fun r119 =>
  (pv r119.2 (pickA r117.1 r119.1 (.v (Go.Value.bool false)))).bind fun r120 =>
  (gsel true r120.2 (some (r111.1, r120.2)) r120.1).bind fun r121 =>
  (pv r121.2 (pickA r120.1 r121.1 (.v (Go.Value.bool false)))).bind fun r122 =>
  (gsel true r122.2 (some (r113.1, r122.2)) r122.1).bind fun r123 =>
  (gsel true r123.2 (pv r123.2 (binA Try.prog .eql 28 r123.1 (.v (Go.Value.int Go.IntKind.i64 0)))) r122.1).bind fun r124 =>
  (pv r124.2 (pickA r122.1 r124.1 (.v (Go.Value.bool false)))).bind fun r125 =>
  (gsel true r125.2 (some (r115.1, r125.2)) r125.1).bind fun r126 =>
  (gsel true r126.2 (some ((get (prune kp_l05_NvramKeeps (prune kp_l05_NvramKeeps (prune kp_l05_NvramKeeps (prune kp_l05_NvramKeeps (prune kp_l05_NvramKeeps (prune kp_l05_NvramKeeps (prune kp_l05_NvramKeeps (prune kp_l05_NvramKeeps (prune kp_l05_NvramKeeps (prune kp_l05_NvramKeeps (prune kp_l05_NvramKeeps (prune kp_l05_NvramKeeps t.env)))))))))))) 2), r126.2)) r125.1).bind fun r127 =>
  (gsel true r127.2 (convA Try.prog r127.2 5 32 r127.1) r125.1).bind fun r128 =>
  (gsel true r128.2 (pv r128.2 (binA Try.prog .eql 32 r126.1 r128.1)) r125.1).bind fun r129 =>
  (pv r129.2 (pickA r125.1 r129.1 (.v (Go.Value.bool false)))).bind fun r130 =>
  (gsel true r130.2 (some (r116.1, r130.2)) r130.1).bind fun r131 =>
  (pv r131.2 (pickA r130.1 r131.1 (.v (Go.Value.bool false)))).bind fun r132 =>
  some (.ret, ⟨((6, r132.1) :: (20, r116.1) :: (19, r115.1) :: (18, r113.1) :: (17, r111.1) :: (16, r110.1) :: (15, r108.1) :: (90, r107.1) :: (85, r105.1) :: (75, r98.1) :: (14, r90.1) :: (13, r89.1) :: (12, r87.1) :: (10, r81.1) :: (prune kp_l05_NvramKeeps (prune kp_l05_NvramKeeps (prune kp_l05_NvramKeeps (prune kp_l05_NvramKeeps (prune kp_l05_NvramKeeps (prune kp_l05_NvramKeeps (prune kp_l05_NvramKeeps (prune kp_l05_NvramKeeps (prune kp_l05_NvramKeeps (prune kp_l05_NvramKeeps (prune kp_l05_NvramKeeps (prune kp_l05_NvramKeeps (prune kp_l05_NvramKeeps t.env)))))))))))))), r132.2⟩))))
noncomputable def X_l05_NvramKeeps_0 (E : FnA) (_n _n0 : Nat) (i : Nat) (t : S) : Option (Ex × S) :=
  if i = 0 then (callA E md_l05_NvramKeeps t.bx 11 [(get t.env 8)]).bind fun r27 =>
  (pv r27.2 (tupA r27.1 0)).bind fun r28 =>
  (pv r28.2 (tupA r27.1 1)).bind fun r29 =>
  (pv r29.2 (binA Try.prog .rem 5 (get (prune kp_l05_NvramKeeps t.env) 2) (.v (Go.Value.int Go.IntKind.u8 5)))).bind fun r30 =>
  (convA Try.prog r30.2 5 3 r30.1).bind fun r31 =>
  (callA E md_l05_NvramKeeps r31.2 12 [(get (prune kp_l05_NvramKeeps t.env) 7), r31.1]).bind fun r32 =>
  (callA E md_l05_NvramKeeps r32.2 10 [(get (prune kp_l05_NvramKeeps (prune kp_l05_NvramKeeps t.env)) 1), (.v (Go.Value.int Go.IntKind.i64 8))]).bind fun r33 =>
  (callA E md_l05_NvramKeeps r33.2 9 [(get (prune kp_l05_NvramKeeps (prune kp_l05_NvramKeeps t.env)) 8), r33.1]).bind fun r34 =>
  (callA E md_l05_NvramKeeps r34.2 11 [(get (prune kp_l05_NvramKeeps (prune kp_l05_NvramKeeps (prune kp_l05_NvramKeeps t.env))) 8)]).bind fun r35 =>
  (pv r35.2 (tupA r35.1 0)).bind fun r36 =>
  (pv r36.2 (tupA r35.1 1)).bind fun r37 =>
  (callA E md_l05_NvramKeeps r37.2 13 [(get (prune kp_l05_NvramKeeps (prune kp_l05_NvramKeeps (prune kp_l05_NvramKeeps (prune kp_l05_NvramKeeps t.env)))) 7)]).bind fun r38 =>
  (pv r38.2 (binA Try.prog .eql 28 r34.1 (.v (Go.Value.int Go.IntKind.i64 0)))).bind fun r39 =>
  (gsel true r39.2 (some ((get (prune kp_l05_NvramKeeps (prune kp_l05_NvramKeeps (prune kp_l05_NvramKeeps (prune kp_l05_NvramKeeps (prune kp_l05_NvramKeeps t.env))))) 8), r39.2)) r39.1).bind fun r40 =>
  (gsel true r40.2 (some ((get (prune kp_l05_NvramKeeps (prune kp_l05_NvramKeeps (prune kp_l05_NvramKeeps (prune kp_l05_NvramKeeps (prune kp_l05_NvramKeeps t.env))))) 1), r40.2)) r39.1).bind fun r41 =>
  (gsel true r41.2 (callA E md_l05_NvramKeeps r41.2 10 [r41.1, (.v (Go.Value.int Go.IntKind.i64 8))]) r39.1).bind fun r42 =>
  (gsel true r42.2 (callA E md_l05_NvramKeeps r42.2 14 [r40.1, r42.1]) r39.1).bind fun r43 =>
  (gsel true r43.2 (pv r43.2 (unA .not r43.1)) r39.1).bind fun r44 =>
  (pv r44.2 (pickA r39.1 r44.1 (.v (Go.Value.bool false)))).bind fun r45 =>
  condA r45.1 (some (.ret, ⟨((6, (.v (Go.Value.bool false))) :: (75, r45.1) :: (14, r37.1) :: (13, r36.1) :: (12, r34.1) :: (10, r28.1) :: (prune kp_l05_NvramKeeps (prune kp_l05_NvramKeeps (prune kp_l05_NvramKeeps (prune kp_l05_NvramKeeps (prune kp_l05_NvramKeeps (prune kp_l05_NvramKeeps (prune kp_l05_NvramKeeps t.env)))))))), r45.2⟩)) ((pv r45.2 (binA Try.prog .neq 28 r34.1 (.v (Go.Value.int Go.IntKind.i64 0)))).bind fun r46 =>
  (gsel true r46.2 (some (r37.1, r46.2)) r46.1).bind fun r47 =>
  (pv r47.2 (pickA r46.1 r47.1 (.v (Go.Value.bool false)))).bind fun r48 =>
  (gsel true r48.2 (some (r36.1, r48.2)) r48.1).bind fun r49 =>
  (gsel true r49.2 (some (r28.1, r49.2)) r48.1).bind fun r50 =>
  (gsel true r50.2 (pv r50.2 (binA Try.prog .neq 32 r49.1 r50.1)) r48.1).bind fun r51 =>
  (pv r51.2 (pickA r48.1 r51.1 (.v (Go.Value.bool false)))).bind fun r52 =>
  condA r52.1 (some (.ret, ⟨((6, (.v (Go.Value.bool true))) :: (85, r52.1) :: (75, r45.1) :: (14, r37.1) :: (13, r36.1) :: (12, r34.1) :: (10, r28.1) :: (prune kp_l05_NvramKeeps (prune kp_l05_NvramKeeps (prune kp_l05_NvramKeeps (prune kp_l05_NvramKeeps (prune kp_l05_NvramKeeps (prune kp_l05_NvramKeeps (prune kp_l05_NvramKeeps (prune kp_l05_NvramKeeps t.env))))))))), r52.2⟩)) ((pv r52.2 (binA Try.prog .and 32 r36.1 r28.1)).bind fun r53 =>
  (pv r53.2 (binA Try.prog .neq 32 r53.1 r28.1)).bind fun r54 =>
  condA r54.1 (some (.ret, ⟨((6, (.v (Go.Value.bool false))) :: (90, r54.1) :: (85, r52.1) :: (75, r45.1) :: (14, r37.1) :: (13, r36.1) :: (12, r34.1) :: (10, r28.1) :: (prune kp_l05_NvramKeeps (prune kp_l05_NvramKeeps (prune kp_l05_NvramKeeps (prune kp_l05_NvramKeeps (prune kp_l05_NvramKeeps (prune kp_l05_NvramKeeps (prune kp_l05_NvramKeeps (prune kp_l05_NvramKeeps (prune kp_l05_NvramKeeps t.env)))))))))), r54.2⟩)) ((callA E md_l05_NvramKeeps r54.2 8 [(get (prune kp_l05_NvramKeeps (prune kp_l05_NvramKeeps (prune kp_l05_NvramKeeps (prune kp_l05_NvramKeeps (prune kp_l05_NvramKeeps (prune kp_l05_NvramKeeps (prune kp_l05_NvramKeeps (prune kp_l05_NvramKeeps t.env)))))))) 8)]).bind fun r55 =>
  (callA E md_l05_NvramKeeps r55.2 11 [(get (prune kp_l05_NvramKeeps (prune kp_l05_NvramKeeps (prune kp_l05_NvramKeeps (prune kp_l05_NvramKeeps (prune kp_l05_NvramKeeps (prune kp_l05_NvramKeeps (prune kp_l05_NvramKeeps (prune kp_l05_NvramKeeps (prune kp_l05_NvramKeeps t.env))))))))) 8)]).bind fun r56 =>
  (pv r56.2 (tupA r56.1 0)).bind fun r57 =>
  (pv r57.2 (tupA r56.1 1)).bind fun r58 =>
  (convA Try.prog r58.2 5 32 (get (prune kp_l05_NvramKeeps (prune kp_l05_NvramKeeps (prune kp_l05_NvramKeeps (prune kp_l05_NvramKeeps (prune kp_l05_NvramKeeps (prune kp_l05_NvramKeeps (prune kp_l05_NvramKeeps (prune kp_l05_NvramKeeps (prune kp_l05_NvramKeeps (prune kp_l05_NvramKeeps t.env)))))))))) 2)).bind fun r59 =>
  (callA E md_l05_NvramKeeps r59.2 15 [(get (prune kp_l05_NvramKeeps (prune kp_l05_NvramKeeps (prune kp_l05_NvramKeeps (prune kp_l05_NvramKeeps (prune kp_l05_NvramKeeps (prune kp_l05_NvramKeeps (prune kp_l05_NvramKeeps (prune kp_l05_NvramKeeps (prune kp_l05_NvramKeeps (prune kp_l05_NvramKeeps t.env)))))))))) 8), r59.1]).bind fun r60 =>
  (callA E md_l05_NvramKeeps r60.2 11 [(get (prune kp_l05_NvramKeeps (prune kp_l05_NvramKeeps (prune kp_l05_NvramKeeps (prune kp_l05_NvramKeeps (prune kp_l05_NvramKeeps (prune kp_l05_NvramKeeps (prune kp_l05_NvramKeeps (prune kp_l05_NvramKeeps (prune kp_l05_NvramKeeps (prune kp_l05_NvramKeeps (prune kp_l05_NvramKeeps t.env))))))))))) 8)]).bind fun r61 =>
  (pv r61.2 (tupA r61.1 0)).bind fun r62 =>
  (pv r62.2 (tupA r61.1 1)).bind fun r63 =>
  (pv r63.2 (binA Try.prog .eql 28 r55.1 (.v (Go.Value.int Go.IntKind.i64 0)))).bind fun r64 =>
  (gsel true r64.2 (some (r57.1, r64.2)) r64.1).bind fun r65 =>
  (gsel true r65.2 (pv r65.2 (binA Try.prog .eql 32 r65.1 (.v (Go.Value.int Go.IntKind.u32 0)))) r64.1).bind fun r66 =>
  (pv r66.2 (pickA r64.1 r66.1 (.v (Go.Value.bool false)))).bind fun r67 =>
  (gsel true r67.2 (some (r58.1, r67.2)) r67.1).bind fun r68 =>
  (pv r68.2 (pickA r67.1 r68.1 (.v (Go.Value.bool false)))).bind fun r69 =>
  (gsel true r69.2 (some (r60.1, r69.2)) r69.1).bind fun r70 =>
  (gsel true r70.2 (pv r70.2 (binA Try.prog .eql 28 r70.1 (.v (Go.Value.int Go.IntKind.i64 0)))) r69.1).bind fun r71 =>
  (pv r71.2 (pickA r69.1 r71.1 (.v (Go.Value.bool false)))).bind fun r72 =>
  (gsel true r72.2 (some (r62.1, r72.2)) r72.1).bind fun r73 =>
  (gsel true r73.2 (some ((get (prune kp_l05_NvramKeeps (prune kp_l05_NvramKeeps (prune kp_l05_NvramKeeps (prune kp_l05_NvramKeeps (prune kp_l05_NvramKeeps (prune kp_l05_NvramKeeps (prune kp_l05_NvramKeeps (prune kp_l05_NvramKeeps (prune kp_l05_NvramKeeps (prune kp_l05_NvramKeeps (prune kp_l05_NvramKeeps (prune kp_l05_NvramKeeps t.env)))))))))))) 2), r73.2)) r72.1).bind fun r74 =>
  (gsel true r74.2 (convA Try.prog r74.2 5 32 r74.1) r72.1).bind fun r75 =>
  (gsel true r75.2 (pv r75.2 (binA Try.prog .eql 32 r73.1 r75.1)) r72.1).bind fun r76 =>
  (pv r76.2 (pickA r72.1 r76.1 (.v (Go.Value.bool false)))).bind fun r77 =>
  (gsel true r77.2 (some (r63.1, r77.2)) r77.1).bind fun r78 =>
  (pv r78.2 (pickA r77.1 r78.1 (.v (Go.Value.bool false)))).bind fun r79 =>
  some (.ret, ⟨((6, r79.1) :: (20, r63.1) :: (19, r62.1) :: (18, r60.1) :: (17, r58.1) :: (16, r57.1) :: (15, r55.1) :: (90, r54.1) :: (85, r52.1) :: (75, r45.1) :: (14, r37.1) :: (13, r36.1) :: (12, r34.1) :: (10, r28.1) :: (prune kp_l05_NvramKeeps (prune kp_l05_NvramKeeps (prune kp_l05_NvramKeeps (prune kp_l05_NvramKeeps (prune kp_l05_NvramKeeps (prune kp_l05_NvramKeeps (prune kp_l05_NvramKeeps (prune kp_l05_NvramKeeps (prune kp_l05_NvramKeeps (prune kp_l05_NvramKeeps (prune kp_l05_NvramKeeps (prune kp_l05_NvramKeeps (prune kp_l05_NvramKeeps t.env)))))))))))))), r79.2⟩)))) else some (.exit i, ⟨t.env, t.bx⟩)
noncomputable def X_l05_NvramKeeps_0_0 (E : FnA) (_n _n0 : Nat) (x36 x9 x28 x8 x7 x22 x6 x0 x1 x2 : AV) (y : Bx) : Option (Ex × S) :=
  (callA E md_l05_NvramKeeps y 11 [x8]).bind fun r133 =>
  (pv r133.2 (tupA r133.1 0)).bind fun r134 =>
  (pv r134.2 (tupA r133.1 1)).bind fun r135 =>
  (pv r135.2 (binA Try.prog .rem 5 x2 (.v (Go.Value.int Go.IntKind.u8 5)))).bind fun r136 =>
  (convA Try.prog r136.2 5 3 r136.1).bind fun r137 =>
  (callA E md_l05_NvramKeeps r137.2 12 [x7, r137.1]).bind fun r138 =>
  (callA E md_l05_NvramKeeps r138.2 10 [x1, (.v (Go.Value.int Go.IntKind.i64 8))]).bind fun r139 =>
  (callA E md_l05_NvramKeeps r139.2 9 [x8, r139.1]).bind fun r140 =>
  (callA E md_l05_NvramKeeps r140.2 11 [x8]).bind fun r141 =>
  (pv r141.2 (tupA r141.1 0)).bind fun r142 =>
  (pv r142.2 (tupA r141.1 1)).bind fun r143 =>
  (callA E md_l05_NvramKeeps r143.2 13 [x7]).bind fun r144 =>
  (pv r144.2 (binA Try.prog .eql 28 r140.1 (.v (Go.Value.int Go.IntKind.i64 0)))).bind fun r145 =>
  (gsel true r145.2 (some (x8, r145.2)) r145.1).bind fun r146 =>
  (gsel true r146.2 (some (x1, r146.2)) r145.1).bind fun r147 =>
  (gsel true r147.2 (callA E md_l05_NvramKeeps r147.2 10 [r147.1, (.v (Go.Value.int Go.IntKind.i64 8))]) r145.1).bind fun r148 =>
  (gsel true r148.2 (callA E md_l05_NvramKeeps r148.2 14 [r146.1, r148.1]) r145.1).bind fun r149 =>
  (gsel true r149.2 (pv r149.2 (unA .not r149.1)) r145.1).bind fun r150 =>
  (pv r150.2 (pickA r145.1 r150.1 (.v (Go.Value.bool false)))).bind fun r151 =>
  condA r151.1 (some (.ret, ⟨[(6, (.v (Go.Value.bool false))), (75, r151.1), (14, r143.1), (13, r142.1), (12, r140.1), (10, r134.1), (36, x36), (9, x9), (28, x28), (8, x8), (7, x7), (22, x22), (6, x6), (0, x0), (1, x1), (2, x2)], r151.2⟩)) ((pv r151.2 (binA Try.prog .neq 28 r140.1 (.v (Go.Value.int Go.IntKind.i64 0)))).bind fun r152 =>
  (gsel true r152.2 (some (r143.1, r152.2)) r152.1).bind fun r153 =>
  (pv r153.2 (pickA r152.1 r153.1 (.v (Go.Value.bool false)))).bind fun r154 =>
  (gsel true r154.2 (some (r142.1, r154.2)) r154.1).bind fun r155 =>
  (gsel true r155.2 (some (r134.1, r155.2)) r154.1).bind fun r156 =>
  (gsel true r156.2 (pv r156.2 (binA Try.prog .neq 32 r155.1 r156.1)) r154.1).bind fun r157 =>
  (pv r157.2 (pickA r154.1 r157.1 (.v (Go.Value.bool false)))).bind fun r158 =>
  condA r158.1 (some (.ret, ⟨[(6, (.v (Go.Value.bool true))), (85, r158.1), (75, r151.1), (14, r143.1), (13, r142.1), (12, r140.1), (10, r134.1), (36, x36), (9, x9), (28, x28), (8, x8), (7, x7), (22, x22), (6, x6), (0, x0), (1, x1), (2, x2)], r158.2⟩)) ((pv r158.2 (binA Try.prog .and 32 r142.1 r134.1)).bind fun r159 =>
  (pv r159.2 (binA Try.prog .neq 32 r159.1 r134.1)).bind fun r160 =>
  condA r160.1 (some (.ret, ⟨[(6, (.v (Go.Value.bool false))), (90, r160.1), (85, r158.1), (75, r151.1), (14, r143.1), (13, r142.1), (12, r140.1), (10, r134.1), (36, x36), (9, x9), (28, x28), (8, x8), (7, x7), (22, x22), (6, x6), (0, x0), (1, x1), (2, x2)], r160.2⟩)) ((callA E md_l05_NvramKeeps r160.2 8 [x8]).bind fun r161 =>
  (callA E md_l05_NvramKeeps r161.2 11 [x8]).bind fun r162 =>
  (pv r162.2 (tupA r162.1 0)).bind fun r163 =>
  (pv r163.2 (tupA r162.1 1)).bind fun r164 =>
  (convA Try.prog r164.2 5 32 x2).bind fun r165 =>
  (callA E md_l05_NvramKeeps r165.2 15 [x8, r165.1]).bind fun r166 =>
  (callA E md_l05_NvramKeeps r166.2 11 [x8]).bind fun r167 =>
  (pv r167.2 (tupA r167.1 0)).bind fun r168 =>
  (pv r168.2 (tupA r167.1 1)).bind fun r169 =>
  (pv r169.2 (binA Try.prog .eql 28 r161.1 (.v (Go.Value.int Go.IntKind.i64 0)))).bind fun r170 =>
  (gsel true r170.2 (some (r163.1, r170.2)) r170.1).bind fun r171 =>
  (gsel true r171.2 (pv r171.2 (binA Try.prog .eql 32 r171.1 (.v (Go.Value.int Go.IntKind.u32 0)))) r170.1).bind fun r172 =>
  (pv r172.2 (pickA r170.1 r172.1 (.v (Go.Value.bool false)))).bind fun r173 =>
  (gsel true r173.2 (some (r164.1, r173.2)) r173.1).bind fun r174 =>
  (pv r174.2 (pickA r173.1 r174.1 (.v (Go.Value.bool false)))).bind fun r175 =>
  (gsel true r175.2 (some (r166.1, r175.2)) r175.1).bind fun r176 =>
  (gsel true r176.2 (pv r176.2 (binA Try.prog .eql 28 r176.1 (.v (Go.Value.int Go.IntKind.i64 0)))) r175.1).bind fun r177 =>
  (pv r177.2 (pickA r175.1 r177.1 (.v (Go.Value.bool false)))).bind fun r178 =>
  (gsel true r178.2 (some (r168.1, r178.2)) r178.1).bind fun r179 =>
  (gsel true r179.2 (some (x2, r179.2)) r178.1).bind fun r180 =>
  (gsel true r180.2 (convA Try.prog r180.2 5 32 r180.1) r178.1).bind fun r181 =>
  (gsel true r181.2 (pv r181.2 (binA Try.prog .eql 32 r179.1 r181.1)) r178.1).bind fun r182 =>
  (pv r182.2 (pickA r178.1 r182.1 (.v (Go.Value.bool false)))).bind fun r183 =>
  (gsel true r183.2 (some (r169.1, r183.2)) r183.1).bind fun r184 =>
  (pv r184.2 (pickA r183.1 r184.1 (.v (Go.Value.bool false)))).bind fun r185 =>
  some (.ret, ⟨[(6, r185.1), (20, r169.1), (19, r168.1), (18, r166.1), (17, r164.1), (16, r163.1), (15, r161.1), (90, r160.1), (85, r158.1), (75, r151.1), (14, r143.1), (13, r142.1), (12, r140.1), (10, r134.1), (36, x36), (9, x9), (28, x28), (8, x8), (7, x7), (22, x22), (6, x6), (0, x0), (1, x1), (2, x2)], r185.2⟩))))
theorem X_l05_NvramKeeps_0_0_lit {E : FnA} {n n0 : Nat} {x36 x9 x28 x8 x7 x22 x6 x0 x1 x2 : AV} {y : Bx} {Q : Ex → S → Prop} (h : Ends (X_l05_NvramKeeps_0_0 E n n0 x36 x9 x28 x8 x7 x22 x6 x0 x1 x2 y) Q) : Ends (X_l05_NvramKeeps_0 E n n0 0 ⟨[(36, x36), (9, x9), (28, x28), (8, x8), (7, x7), (22, x22), (6, x6), (0, x0), (1, x1), (2, x2)], y⟩) Q := by
  rw [show X_l05_NvramKeeps_0 E n n0 0 ⟨[(36, x36), (9, x9), (28, x28), (8, x8), (7, x7), (22, x22), (6, x6), (0, x0), (1, x1), (2, x2)], y⟩ = X_l05_NvramKeeps_0_0 E n n0 x36 x9 x28 x8 x7 x22 x6 x0 x1 x2 y by kernel_rfl]
  exact h
noncomputable def F_l05_NvramKeeps (E : FnA) (n n0 : Nat) (a0 a1 a2 : AV) (bx : Bx) : Option (Ex × S) :=
  (callA E md_l05_NvramKeeps bx 5 []).bind fun r1 =>
  (pv r1.2 (unA .not r1.1)).bind fun r2 =>
  condA r2.1 (some (.ret, ⟨[(6, (.v (Go.Value.bool false))), (22, r2.1), (6, (.v (Go.Value.bool false))), (0, a0), (1, a1), (2, a2)], r2.2⟩)) ((callA E md_l05_NvramKeeps r2.2 6 []).bind fun r3 =>
  (callA E md_l05_NvramKeeps r3.2 7 [r3.1]).bind fun r4 =>
  (callA E md_l05_NvramKeeps r4.2 8 [r4.1]).bind fun r5 =>
  (pv r5.2 (binA Try.prog .neq 28 r5.1 (.v (Go.Value.int Go.IntKind.i64 0)))).bind fun r6 =>
  condA r6.1 (some (.ret, ⟨[(6, (.v (Go.Value.bool false))), (28, r6.1), (8, r4.1), (7, r3.1), (22, r2.1), (6, (.v (Go.Value.bool false))), (0, a0), (1, a1), (2, a2)], r6.2⟩)) (exitA (iter ⟨[(9, (.v (Go.Value.int Go.IntKind.i64 0))), (28, r6.1), (8, r4.1), (7, r3.1), (22, r2.1), (6, (.v (Go.Value.bool false))), (0, a0), (1, a1), (2, a2)], r6.2⟩ (L_l05_NvramKeeps_0 E n n0) n ⟨[(9, (.v (Go.Value.int Go.IntKind.i64 0))), (28, r6.1), (8, r4.1), (7, r3.1), (22, r2.1), (6, (.v (Go.Value.bool false))), (0, a0), (1, a1), (2, a2)], r6.2⟩) (K_l05_NvramKeeps_0 E n n0) (X_l05_NvramKeeps_0 E n n0)))
theorem c_l05_NvramKeeps_eq : Try.f3.body = some c_l05_NvramKeeps := by kernel_rfl
theorem d_l05_NvramKeeps : drawsOk Try.prog md_l05_NvramKeeps c_l05_NvramKeeps = true := by kernel_rfl
theorem F_l05_NvramKeeps_eq (E : FnA) (n n0 : Nat) (a0 a1 a2 : AV) (bx : Bx) : evK Try.prog md_l05_NvramKeeps E 129 kp_l05_NvramKeeps n n0 c_l05_NvramKeeps ⟨[(0, a0), (1, a1), (2, a2)], bx⟩ (fun s => some (.normal, s)) (fun i s => some (.exit i, s)) = F_l05_NvramKeeps E n n0 a0 a1 a2 bx := by kernel_rfl

theorem E_l05_NvramKeeps (n : Nat) (a0 a1 a2 : AV) (bx : Bx) : evFn cx0 ext0 (n + 1) 3 [a0, a1, a2] bx = fin Try.prog [.tmp 6] (F_l05_NvramKeeps (evFn cx0 ext0 n) n bx.length a0 a1 a2 bx) := by
  rw [evFn_eq2 (cx := cx0) (c := c_l05_NvramKeeps) rfl Try.func3 c_l05_NvramKeeps_eq (of_decide_eq_true (by kernel_rfl)) d_l05_NvramKeeps (of_decide_eq_true (by kernel_rfl))]
  exact congrArg (fin Try.prog [.tmp 6]) (F_l05_NvramKeeps_eq (evFn cx0 ext0 n) n bx.length a0 a1 a2 bx)

/-- scupper/scupperlaw05.NvramVoid -/
def kp_l05_NvramVoid : Option (List Nat) := some [0, 1, 4, 5, 6, 7, 8, 9, 11]
noncomputable def c_l05_NvramVoid : Code := Try.f4.body.getD .skip
noncomputable def F_l05_NvramVoid (E : FnA) (_n _n0 : Nat) (a0 a1 : AV) (bx : Bx) : Option (Ex × S) :=
  (callA E md_l05_NvramVoid bx 5 []).bind fun r1 =>
  (pv r1.2 (unA .not r1.1)).bind fun r2 =>
  condA r2.1 (some (.ret, ⟨[(4, (.v (Go.Value.bool false))), (11, r2.1), (4, (.v (Go.Value.bool false))), (0, a0), (1, a1)], r2.2⟩)) ((callA E md_l05_NvramVoid r2.2 16 [(.v (Go.Value.pointer none)), a0]).bind fun r3 =>
  (pv r3.2 (tupA r3.1 0)).bind fun r4 =>
  (pv r4.2 (tupA r3.1 1)).bind fun r5 =>
  (callA E md_l05_NvramVoid r5.2 11 [(.v (Go.Value.pointer none))]).bind fun r6 =>
  (pv r6.2 (tupA r6.1 0)).bind fun r7 =>
  (pv r7.2 (tupA r6.1 1)).bind fun r8 =>
  (callA E md_l05_NvramVoid r8.2 9 [(.v (Go.Value.pointer none)), a0]).bind fun r9 =>
  (pv r9.2 (binA Try.prog .eql 28 r9.1 (.v (Go.Value.int Go.IntKind.i64 1)))).bind fun r10 =>
  (gsel true r10.2 (some ((.v (Go.Value.pointer none)), r10.2)) r10.1).bind fun r11 =>
  (gsel true r11.2 (callA E md_l05_NvramVoid r11.2 8 [r11.1]) r10.1).bind fun r12 =>
  (gsel true r12.2 (pv r12.2 (binA Try.prog .eql 28 r12.1 (.v (Go.Value.int Go.IntKind.i64 1)))) r10.1).bind fun r13 =>
  (pv r13.2 (pickA r10.1 r13.1 (.v (Go.Value.bool false)))).bind fun r14 =>
  (gsel true r14.2 (some ((.v (Go.Value.pointer none)), r14.2)) r14.1).bind fun r15 =>
  (gsel true r15.2 (some (a1, r15.2)) r14.1).bind fun r16 =>
  (gsel true r16.2 (callA E md_l05_NvramVoid r16.2 15 [r15.1, r16.1]) r14.1).bind fun r17 =>
  (gsel true r17.2 (pv r17.2 (binA Try.prog .eql 28 r17.1 (.v (Go.Value.int Go.IntKind.i64 1)))) r14.1).bind fun r18 =>
  (pv r18.2 (pickA r14.1 r18.1 (.v (Go.Value.bool false)))).bind fun r19 =>
  (gsel true r19.2 (some ((.v (Go.Value.pointer none)), r19.2)) r19.1).bind fun r20 =>
  (gsel true r20.2 (some (a0, r20.2)) r19.1).bind fun r21 =>
  (gsel true r21.2 (some (a1, r21.2)) r19.1).bind fun r22 =>
  (gsel true r22.2 (callA E md_l05_NvramVoid r22.2 17 [r20.1, r21.1, r22.1]) r19.1).bind fun r23 =>
  (gsel true r23.2 (pv r23.2 (binA Try.prog .eql 28 r23.1 (.v (Go.Value.int Go.IntKind.i64 1)))) r19.1).bind fun r24 =>
  (pv r24.2 (pickA r19.1 r24.1 (.v (Go.Value.bool false)))).bind fun r25 =>
  (gsel true r25.2 (some (r5.1, r25.2)) r25.1).bind fun r26 =>
  (gsel true r26.2 (pv r26.2 (binA Try.prog .eql 28 r26.1 (.v (Go.Value.int Go.IntKind.i64 1)))) r25.1).bind fun r27 =>
  (pv r27.2 (pickA r25.1 r27.1 (.v (Go.Value.bool false)))).bind fun r28 =>
  (gsel true r28.2 (some (r4.1, r28.2)) r28.1).bind fun r29 =>
  (gsel true r29.2 (pv r29.2 (binA Try.prog .eql 32 r29.1 (.v (Go.Value.int Go.IntKind.u32 0)))) r28.1).bind fun r30 =>
  (pv r30.2 (pickA r28.1 r30.1 (.v (Go.Value.bool false)))).bind fun r31 =>
  (gsel true r31.2 (some (r7.1, r31.2)) r31.1).bind fun r32 =>
  (gsel true r32.2 (pv r32.2 (binA Try.prog .eql 32 r32.1 (.v (Go.Value.int Go.IntKind.u32 0)))) r31.1).bind fun r33 =>
  (pv r33.2 (pickA r31.1 r33.1 (.v (Go.Value.bool false)))).bind fun r34 =>
  (gsel true r34.2 (some (r8.1, r34.2)) r34.1).bind fun r35 =>
  (gsel true r35.2 (pv r35.2 (unA .not r35.1)) r34.1).bind fun r36 =>
  (pv r36.2 (pickA r34.1 r36.1 (.v (Go.Value.bool false)))).bind fun r37 =>
  (gsel true r37.2 (some ((.v (Go.Value.pointer none)), r37.2)) r37.1).bind fun r38 =>
  (gsel true r38.2 (some (a0, r38.2)) r37.1).bind fun r39 =>
  (gsel true r39.2 (callA E md_l05_NvramVoid r39.2 14 [r38.1, r39.1]) r37.1).bind fun r40 =>
  (gsel true r40.2 (pv r40.2 (unA .not r40.1)) r37.1).bind fun r41 =>
  (pv r41.2 (pickA r37.1 r41.1 (.v (Go.Value.bool false)))).bind fun r42 =>
  some (.ret, ⟨[(4, r42.1), (9, r8.1), (8, r7.1), (7, r5.1), (6, r4.1), (5, (.v (Go.Value.pointer none))), (11, r2.1), (4, (.v (Go.Value.bool false))), (0, a0), (1, a1)], r42.2⟩))
theorem c_l05_NvramVoid_eq : Try.f4.body = some c_l05_NvramVoid := by kernel_rfl
theorem d_l05_NvramVoid : drawsOk Try.prog md_l05_NvramVoid c_l05_NvramVoid = true := by kernel_rfl
theorem F_l05_NvramVoid_eq (E : FnA) (n n0 : Nat) (a0 a1 : AV) (bx : Bx) : evK Try.prog md_l05_NvramVoid E 67 kp_l05_NvramVoid n n0 c_l05_NvramVoid ⟨[(0, a0), (1, a1)], bx⟩ (fun s => some (.normal, s)) (fun i s => some (.exit i, s)) = F_l05_NvramVoid E n n0 a0 a1 bx := by kernel_rfl

theorem E_l05_NvramVoid (n : Nat) (a0 a1 : AV) (bx : Bx) : evFn cx0 ext0 (n + 1) 4 [a0, a1] bx = fin Try.prog [.tmp 4] (F_l05_NvramVoid (evFn cx0 ext0 n) n bx.length a0 a1 bx) := by
  rw [evFn_eq2 (cx := cx0) (c := c_l05_NvramVoid) rfl Try.func4 c_l05_NvramVoid_eq (of_decide_eq_true (by kernel_rfl)) d_l05_NvramVoid (of_decide_eq_true (by kernel_rfl))]
  exact congrArg (fin Try.prog [.tmp 4]) (F_l05_NvramVoid_eq (evFn cx0 ext0 n) n bx.length a0 a1 bx)

/-- scupper/scupperlaw05.works -/
def kp_l05_works : Option (List Nat) := some [0, 1, 2, 3, 4, 5, 6, 7]
noncomputable def c_l05_works : Code := Try.f5.body.getD .skip
noncomputable def F_l05_works (E : FnA) (_n _n0 : Nat) (bx : Bx) : Option (Ex × S) :=
  (callA E md_l05_works bx 7 [(.v (Go.Value.pointer none))]).bind fun r1 =>
  (callA E md_l05_works r1.2 11 [r1.1]).bind fun r2 =>
  (pv r2.2 (tupA r2.1 0)).bind fun r3 =>
  (pv r3.2 (tupA r2.1 1)).bind fun r4 =>
  (callA E md_l05_works r4.2 8 [r1.1]).bind fun r5 =>
  (callA E md_l05_works r5.2 9 [r1.1, (.v (Go.Value.int Go.IntKind.i64 3))]).bind fun r6 =>
  (callA E md_l05_works r6.2 11 [r1.1]).bind fun r7 =>
  (pv r7.2 (tupA r7.1 0)).bind fun r8 =>
  (pv r8.2 (tupA r7.1 1)).bind fun r9 =>
  (callA E md_l05_works r9.2 18 []).bind fun r10 =>
  (pv r10.2 (binA Try.prog .eql 32 r3.1 r10.1)).bind fun r11 =>
  (gsel true r11.2 (some (r3.1, r11.2)) r11.1).bind fun r12 =>
  (gsel true r12.2 (pv r12.2 (binA Try.prog .eql 32 r12.1 (.v (Go.Value.int Go.IntKind.u32 255)))) r11.1).bind fun r13 =>
  (pv r13.2 (pickA r11.1 r13.1 (.v (Go.Value.bool false)))).bind fun r14 =>
  (gsel true r14.2 (some (r4.1, r14.2)) r14.1).bind fun r15 =>
  (gsel true r15.2 (pv r15.2 (unA .not r15.1)) r14.1).bind fun r16 =>
  (pv r16.2 (pickA r14.1 r16.1 (.v (Go.Value.bool false)))).bind fun r17 =>
  (gsel true r17.2 (some (r5.1, r17.2)) r17.1).bind fun r18 =>
  (gsel true r18.2 (pv r18.2 (binA Try.prog .eql 28 r18.1 (.v (Go.Value.int Go.IntKind.i64 0)))) r17.1).bind fun r19 =>
  (pv r19.2 (pickA r17.1 r19.1 (.v (Go.Value.bool false)))).bind fun r20 =>
  (gsel true r20.2 (some (r6.1, r20.2)) r20.1).bind fun r21 =>
  (gsel true r21.2 (pv r21.2 (binA Try.prog .eql 28 r21.1 (.v (Go.Value.int Go.IntKind.i64 0)))) r20.1).bind fun r22 =>
  (pv r22.2 (pickA r20.1 r22.1 (.v (Go.Value.bool false)))).bind fun r23 =>
  (gsel true r23.2 (some (r8.1, r23.2)) r23.1).bind fun r24 =>
  (gsel true r24.2 (pv r24.2 (binA Try.prog .eql 32 r24.1 (.v (Go.Value.int Go.IntKind.u32 8)))) r23.1).bind fun r25 =>
  (pv r25.2 (pickA r23.1 r25.1 (.v (Go.Value.bool false)))).bind fun r26 =>
  (gsel true r26.2 (some (r9.1, r26.2)) r26.1).bind fun r27 =>
  (pv r27.2 (pickA r26.1 r27.1 (.v (Go.Value.bool false)))).bind fun r28 =>
  (gsel true r28.2 (some (r1.1, r28.2)) r28.1).bind fun r29 =>
  (gsel true r29.2 (callA E md_l05_works r29.2 14 [r29.1, (.v (Go.Value.int Go.IntKind.i64 3))]) r28.1).bind fun r30 =>
  (pv r30.2 (pickA r28.1 r30.1 (.v (Go.Value.bool false)))).bind fun r31 =>
  some (.ret, ⟨[(0, r31.1), (7, r9.1), (6, r8.1), (5, r6.1), (4, r5.1), (3, r4.1), (2, r3.1), (1, r1.1), (0, (.v (Go.Value.bool false)))], r31.2⟩)
theorem c_l05_works_eq : Try.f5.body = some c_l05_works := by kernel_rfl
theorem d_l05_works : drawsOk Try.prog md_l05_works c_l05_works = true := by kernel_rfl
theorem F_l05_works_eq (E : FnA) (n n0 : Nat) (bx : Bx) : evK Try.prog md_l05_works E 53 kp_l05_works n n0 c_l05_works ⟨[], bx⟩ (fun s => some (.normal, s)) (fun i s => some (.exit i, s)) = F_l05_works E n n0  bx := by kernel_rfl

theorem E_l05_works (n : Nat) (bx : Bx) : evFn cx0 ext0 (n + 1) 5 [] bx = fin Try.prog [.tmp 0] (F_l05_works (evFn cx0 ext0 n) n bx.length  bx) := by
  rw [evFn_eq2 (cx := cx0) (c := c_l05_works) rfl Try.func5 c_l05_works_eq (of_decide_eq_true (by kernel_rfl)) d_l05_works (of_decide_eq_true (by kernel_rfl))]
  exact congrArg (fin Try.prog [.tmp 0]) (F_l05_works_eq (evFn cx0 ext0 n) n bx.length  bx)

/-- scupper/power.New -/
def kp_power_New : Option (List Nat) := some [0]
noncomputable def c_power_New : Code := Try.f6.body.getD .skip
noncomputable def F_power_New (_E : FnA) (_n _n0 : Nat) (bx : Bx) : Option (Ex × S) :=
  (pv bx (buildA Try.prog 44 [(0, (.v (Go.Value.int Go.IntKind.i64 (-1))))])).bind fun r1 =>
  (boxA r1.2 r1.1).bind fun r2 =>
  some (.ret, ⟨[(0, r2.1), (0, (.v (Go.Value.pointer none)))], r2.2⟩)
theorem c_power_New_eq : Try.f6.body = some c_power_New := by kernel_rfl
theorem d_power_New : drawsOk Try.prog md0 c_power_New = true := by kernel_rfl
theorem F_power_New_eq (E : FnA) (n n0 : Nat) (bx : Bx) : evK Try.prog md0 E 3 kp_power_New n n0 c_power_New ⟨[], bx⟩ (fun s => some (.normal, s)) (fun i s => some (.exit i, s)) = F_power_New E n n0  bx := by kernel_rfl

theorem E_power_New (n : Nat) (bx : Bx) : evFn cx0 ext0 (n + 1) 6 [] bx = fin Try.prog [.tmp 0] (F_power_New (evFn cx0 ext0 n) n bx.length  bx) := by
  rw [evFn_eq2 (cx := cx0) (c := c_power_New) rfl Try.func6 c_power_New_eq (of_decide_eq_true (by kernel_rfl)) d_power_New (of_decide_eq_true (by kernel_rfl))]
  exact congrArg (fin Try.prog [.tmp 0]) (F_power_New_eq (evFn cx0 ext0 n) n bx.length  bx)

/-- scupper/nvram.New -/
def kp_nvram_New : Option (List Nat) := some [0, 2]
noncomputable def c_nvram_New : Code := Try.f7.body.getD .skip
noncomputable def F_nvram_New (_E : FnA) (_n _n0 : Nat) (a0 : AV) (bx : Bx) : Option (Ex × S) :=
  (pv bx (buildA Try.prog 47 [(0, a0)])).bind fun r1 =>
  (boxA r1.2 r1.1).bind fun r2 =>
  some (.ret, ⟨[(2, r2.1), (2, (.v (Go.Value.pointer none))), (0, a0)], r2.2⟩)
theorem c_nvram_New_eq : Try.f7.body = some c_nvram_New := by kernel_rfl
theorem d_nvram_New : drawsOk Try.prog md0 c_nvram_New = true := by kernel_rfl
theorem F_nvram_New_eq (E : FnA) (n n0 : Nat) (a0 : AV) (bx : Bx) : evK Try.prog md0 E 6 kp_nvram_New n n0 c_nvram_New ⟨[(0, a0)], bx⟩ (fun s => some (.normal, s)) (fun i s => some (.exit i, s)) = F_nvram_New E n n0 a0 bx := by kernel_rfl

theorem E_nvram_New (n : Nat) (a0 : AV) (bx : Bx) : evFn cx0 ext0 (n + 1) 7 [a0] bx = fin Try.prog [.tmp 2] (F_nvram_New (evFn cx0 ext0 n) n bx.length a0 bx) := by
  rw [evFn_eq2 (cx := cx0) (c := c_nvram_New) rfl Try.func7 c_nvram_New_eq (of_decide_eq_true (by kernel_rfl)) d_nvram_New (of_decide_eq_true (by kernel_rfl))]
  exact congrArg (fin Try.prog [.tmp 2]) (F_nvram_New_eq (evFn cx0 ext0 n) n bx.length a0 bx)

/-- (*scupper/nvram.Words).Clear -/
def kp_nvram_Words_Clear : Option (List Nat) := some [0, 2]
noncomputable def c_nvram_Words_Clear : Code := Try.f8.body.getD .skip
noncomputable def F_nvram_Words_Clear (E : FnA) (_n _n0 : Nat) (a0 : AV) (bx : Bx) : Option (Ex × S) :=
  (callA E md_nvram_Words_Clear bx 15 [a0, (.v (Go.Value.int Go.IntKind.u32 0))]).bind fun r1 =>
  some (.ret, ⟨[(2, r1.1), (2, (.v (Go.Value.int Go.IntKind.i64 0))), (0, a0)], r1.2⟩)
theorem c_nvram_Words_Clear_eq : Try.f8.body = some c_nvram_Words_Clear := by kernel_rfl
theorem d_nvram_Words_Clear : drawsOk Try.prog md_nvram_Words_Clear c_nvram_Words_Clear = true := by kernel_rfl
theorem F_nvram_Words_Clear_eq (E : FnA) (n n0 : Nat) (a0 : AV) (bx : Bx) : evK Try.prog md_nvram_Words_Clear E 5 kp_nvram_Words_Clear n n0 c_nvram_Words_Clear ⟨[(0, a0)], bx⟩ (fun s => some (.normal, s)) (fun i s => some (.exit i, s)) = F_nvram_Words_Clear E n n0 a0 bx := by kernel_rfl

theorem E_nvram_Words_Clear (n : Nat) (a0 : AV) (bx : Bx) : evFn cx0 ext0 (n + 1) 8 [a0] bx = fin Try.prog [.tmp 2] (F_nvram_Words_Clear (evFn cx0 ext0 n) n bx.length a0 bx) := by
  rw [evFn_eq2 (cx := cx0) (c := c_nvram_Words_Clear) rfl Try.func8 c_nvram_Words_Clear_eq (of_decide_eq_true (by kernel_rfl)) d_nvram_Words_Clear (of_decide_eq_true (by kernel_rfl))]
  exact congrArg (fin Try.prog [.tmp 2]) (F_nvram_Words_Clear_eq (evFn cx0 ext0 n) n bx.length a0 bx)

/-- (*scupper/nvram.Words).Mark -/
def kp_nvram_Words_Mark : Option (List Nat) := some [0, 1, 4, 5, 6, 7, 10, 25]
noncomputable def c_nvram_Words_Mark : Code := Try.f9.body.getD .skip
noncomputable def F_nvram_Words_Mark (E : FnA) (_n _n0 : Nat) (a0 a1 : AV) (bx : Bx) : Option (Ex × S) :=
  (pv bx (binA Try.prog .eql 26 a0 (.v (Go.Value.pointer none)))).bind fun r1 =>
  condA r1.1 (some (.ret, ⟨[(4, (.v (Go.Value.int Go.IntKind.i64 1))), (7, r1.1), (4, (.v (Go.Value.int Go.IntKind.i64 0))), (0, a0), (1, a1)], r1.2⟩)) ((callA E md_nvram_Words_Mark r1.2 19 [a1]).bind fun r2 =>
  (pv r2.2 (unA .not r2.1)).bind fun r3 =>
  condA r3.1 (some (.ret, ⟨[(4, (.v (Go.Value.int Go.IntKind.i64 2))), (10, r3.1), (7, r1.1), (4, (.v (Go.Value.int Go.IntKind.i64 0))), (0, a0), (1, a1)], r3.2⟩)) ((callA E md_nvram_Words_Mark r3.2 11 [a0]).bind fun r4 =>
  (pv r4.2 (tupA r4.1 0)).bind fun r5 =>
  (pv r5.2 (tupA r4.1 1)).bind fun r6 =>
  (pv r6.2 (unA .not r6.1)).bind fun r7 =>
  (gsel false r7.2 (some (a0, r7.2)) r7.1).bind fun r8 =>
  (gsel false r8.2 (some (a1, r8.2)) r7.1).bind fun r9 =>
  (gsel false r9.2 (callA E md_nvram_Words_Mark r9.2 14 [r8.1, r9.1]) r7.1).bind fun r10 =>
  (pv r10.2 (pickA r7.1 (.v (Go.Value.bool true)) r10.1)).bind fun r11 =>
  condA r11.1 (some (.ret, ⟨[(4, (.v (Go.Value.int Go.IntKind.i64 0))), (25, r11.1), (6, r6.1), (5, r5.1), (10, r3.1), (7, r1.1), (4, (.v (Go.Value.int Go.IntKind.i64 0))), (0, a0), (1, a1)], r11.2⟩)) ((pv r11.2 (binA Try.prog .shl 32 (.v (Go.Value.int Go.IntKind.u32 1)) a1)).bind fun r12 =>
  (pv r12.2 (binA Try.prog .or 32 r5.1 r12.1)).bind fun r13 =>
  (callA E md_nvram_Words_Mark r13.2 20 [a0, r13.1]).bind fun r14 =>
  some (.ret, ⟨[(4, r14.1), (25, r11.1), (6, r6.1), (5, r5.1), (10, r3.1), (7, r1.1), (4, (.v (Go.Value.int Go.IntKind.i64 0))), (0, a0), (1, a1)], r14.2⟩))))
theorem c_nvram_Words_Mark_eq : Try.f9.body = some c_nvram_Words_Mark := by kernel_rfl
theorem d_nvram_Words_Mark : drawsOk Try.prog md_nvram_Words_Mark c_nvram_Words_Mark = true := by kernel_rfl
theorem F_nvram_Words_Mark_eq (E : FnA) (n n0 : Nat) (a0 a1 : AV) (bx : Bx) : evK Try.prog md_nvram_Words_Mark E 32 kp_nvram_Words_Mark n n0 c_nvram_Words_Mark ⟨[(0, a0), (1, a1)], bx⟩ (fun s => some (.normal, s)) (fun i s => some (.exit i, s)) = F_nvram_Words_Mark E n n0 a0 a1 bx := by kernel_rfl

theorem E_nvram_Words_Mark (n : Nat) (a0 a1 : AV) (bx : Bx) : evFn cx0 ext0 (n + 1) 9 [a0, a1] bx = fin Try.prog [.tmp 4] (F_nvram_Words_Mark (evFn cx0 ext0 n) n bx.length a0 a1 bx) := by
  rw [evFn_eq2 (cx := cx0) (c := c_nvram_Words_Mark) rfl Try.func9 c_nvram_Words_Mark_eq (of_decide_eq_true (by kernel_rfl)) d_nvram_Words_Mark (of_decide_eq_true (by kernel_rfl))]
  exact congrArg (fin Try.prog [.tmp 4]) (F_nvram_Words_Mark_eq (evFn cx0 ext0 n) n bx.length a0 a1 bx)

/-- scupper/scupperbase.Among -/
def kp_base_Among : Option (List Nat) := some [0, 1, 4, 6]
noncomputable def c_base_Among : Code := Try.f10.body.getD .skip
noncomputable def F_base_Among (_E : FnA) (_n _n0 : Nat) (a0 a1 : AV) (bx : Bx) : Option (Ex × S) :=
  (pv bx (binA Try.prog .lss 3 a1 (.v (Go.Value.int Go.IntKind.i64 1)))).bind fun r1 =>
  condA r1.1 (some (.ret, ⟨[(4, (.v (Go.Value.int Go.IntKind.i64 0))), (6, r1.1), (4, (.v (Go.Value.int Go.IntKind.i64 0))), (0, a0), (1, a1)], r1.2⟩)) ((convA Try.prog r1.2 3 48 a0).bind fun r2 =>
  (convA Try.prog r2.2 3 48 a1).bind fun r3 =>
  (pv r3.2 (binA Try.prog .rem 48 r2.1 r3.1)).bind fun r4 =>
  (convA Try.prog r4.2 48 3 r4.1).bind fun r5 =>
  some (.ret, ⟨[(4, r5.1), (6, r1.1), (4, (.v (Go.Value.int Go.IntKind.i64 0))), (0, a0), (1, a1)], r5.2⟩))
theorem c_base_Among_eq : Try.f10.body = some c_base_Among := by kernel_rfl
theorem d_base_Among : drawsOk Try.prog md0 c_base_Among = true := by kernel_rfl
theorem F_base_Among_eq (E : FnA) (n n0 : Nat) (a0 a1 : AV) (bx : Bx) : evK Try.prog md0 E 13 kp_base_Among n n0 c_base_Among ⟨[(0, a0), (1, a1)], bx⟩ (fun s => some (.normal, s)) (fun i s => some (.exit i, s)) = F_base_Among E n n0 a0 a1 bx := by kernel_rfl

theorem E_base_Among (n : Nat) (a0 a1 : AV) (bx : Bx) : evFn cx0 ext0 (n + 1) 10 [a0, a1] bx = fin Try.prog [.tmp 4] (F_base_Among (evFn cx0 ext0 n) n bx.length a0 a1 bx) := by
  rw [evFn_eq2 (cx := cx0) (c := c_base_Among) rfl Try.func10 c_base_Among_eq (of_decide_eq_true (by kernel_rfl)) d_base_Among (of_decide_eq_true (by kernel_rfl))]
  exact congrArg (fin Try.prog [.tmp 4]) (F_base_Among_eq (evFn cx0 ext0 n) n bx.length a0 a1 bx)

/-- (*scupper/nvram.Words).Says -/
def kp_nvram_Words_Says : Option (List Nat) := some [0, 2, 3, 4, 7]
noncomputable def c_nvram_Words_Says : Code := Try.f11.body.getD .skip
noncomputable def F_nvram_Words_Says (E : FnA) (_n _n0 : Nat) (a0 : AV) (bx : Bx) : Option (Ex × S) :=
  (pv bx (binA Try.prog .eql 26 a0 (.v (Go.Value.pointer none)))).bind fun r1 =>
  condA r1.1 (some (.ret, ⟨[(3, (.v (Go.Value.bool false))), (2, (.v (Go.Value.int Go.IntKind.u32 0))), (4, r1.1), (3, (.v (Go.Value.bool false))), (2, (.v (Go.Value.int Go.IntKind.u32 0))), (0, a0)], r1.2⟩)) ((pv r1.2 (nilA a0)).bind fun r2 =>
  (pv r2.2 (fieldAddrA Try.prog 47 r2.1 1)).bind fun r3 =>
  (pv r3.2 (indexAddrA Try.prog 45 r3.1 (.v (Go.Value.int Go.IntKind.i64 2)))).bind fun r4 =>
  (pv r4.2 (loadA Try.prog 32 r4.2 r4.1)).bind fun r5 =>
  (callA E md_nvram_Words_Says r5.2 21 [a0]).bind fun r6 =>
  (pv r6.2 (binA Try.prog .neq 32 r5.1 r6.1)).bind fun r7 =>
  condA r7.1 ((callA E md_nvram_Words_Says r7.2 18 []).bind fun r8 =>
  some (.ret, ⟨[(3, (.v (Go.Value.bool false))), (2, r8.1), (7, r7.1), (4, r1.1), (3, (.v (Go.Value.bool false))), (2, (.v (Go.Value.int Go.IntKind.u32 0))), (0, a0)], r8.2⟩)) ((pv r7.2 (nilA a0)).bind fun r9 =>
  (pv r9.2 (fieldAddrA Try.prog 47 r9.1 1)).bind fun r10 =>
  (pv r10.2 (indexAddrA Try.prog 45 r10.1 (.v (Go.Value.int Go.IntKind.i64 1)))).bind fun r11 =>
  (pv r11.2 (loadA Try.prog 32 r11.2 r11.1)).bind fun r12 =>
  some (.ret, ⟨[(3, (.v (Go.Value.bool true))), (2, r12.1), (7, r7.1), (4, r1.1), (3, (.v (Go.Value.bool false))), (2, (.v (Go.Value.int Go.IntKind.u32 0))), (0, a0)], r12.2⟩)))
theorem c_nvram_Words_Says_eq : Try.f11.body = some c_nvram_Words_Says := by kernel_rfl
theorem d_nvram_Words_Says : drawsOk Try.prog md_nvram_Words_Says c_nvram_Words_Says = true := by kernel_rfl
theorem F_nvram_Words_Says_eq (E : FnA) (n n0 : Nat) (a0 : AV) (bx : Bx) : evK Try.prog md_nvram_Words_Says E 22 kp_nvram_Words_Says n n0 c_nvram_Words_Says ⟨[(0, a0)], bx⟩ (fun s => some (.normal, s)) (fun i s => some (.exit i, s)) = F_nvram_Words_Says E n n0 a0 bx := by kernel_rfl

theorem E_nvram_Words_Says (n : Nat) (a0 : AV) (bx : Bx) : evFn cx0 ext0 (n + 1) 11 [a0] bx = fin Try.prog [.tmp 2, .tmp 3] (F_nvram_Words_Says (evFn cx0 ext0 n) n bx.length a0 bx) := by
  rw [evFn_eq2 (cx := cx0) (c := c_nvram_Words_Says) rfl Try.func11 c_nvram_Words_Says_eq (of_decide_eq_true (by kernel_rfl)) d_nvram_Words_Says (of_decide_eq_true (by kernel_rfl))]
  exact congrArg (fin Try.prog [.tmp 2, .tmp 3]) (F_nvram_Words_Says_eq (evFn cx0 ext0 n) n bx.length a0 bx)

/-- (*scupper/power.Supply).Limit -/
def kp_power_Supply_Limit : Option (List Nat) := some [0, 1, 4, 10]
noncomputable def c_power_Supply_Limit : Code := Try.f12.body.getD .skip
noncomputable def F_power_Supply_Limit (_E : FnA) (_n _n0 : Nat) (a0 a1 : AV) (bx : Bx) : Option (Ex × S) :=
  (pv bx (binA Try.prog .eql 24 a0 (.v (Go.Value.pointer none)))).bind fun r1 =>
  (gsel false r1.2 (some (a1, r1.2)) r1.1).bind fun r2 =>
  (gsel false r2.2 (pv r2.2 (binA Try.prog .lss 3 r2.1 (.v (Go.Value.int Go.IntKind.i64 0)))) r1.1).bind fun r3 =>
  (pv r3.2 (pickA r1.1 (.v (Go.Value.bool true)) r3.1)).bind fun r4 =>
  condA r4.1 (some (.ret, ⟨[(4, (.v (Go.Value.int Go.IntKind.i64 2))), (10, r4.1), (4, (.v (Go.Value.int Go.IntKind.i64 0))), (0, a0), (1, a1)], r4.2⟩)) ((pv r4.2 (nilA a0)).bind fun r5 =>
  (pv r5.2 (fieldAddrA Try.prog 44 r5.1 0)).bind fun r6 =>
  (stA Try.prog 3 r6.2 r6.1 a1).bind fun r7 =>
  some (.ret, ⟨[(4, (.v (Go.Value.int Go.IntKind.i64 0))), (10, r4.1), (4, (.v (Go.Value.int Go.IntKind.i64 0))), (0, a0), (1, a1)], r7.2⟩))
theorem c_power_Supply_Limit_eq : Try.f12.body = some c_power_Supply_Limit := by kernel_rfl
theorem d_power_Supply_Limit : drawsOk Try.prog md0 c_power_Supply_Limit = true := by kernel_rfl
theorem F_power_Supply_Limit_eq (E : FnA) (n n0 : Nat) (a0 a1 : AV) (bx : Bx) : evK Try.prog md0 E 15 kp_power_Supply_Limit n n0 c_power_Supply_Limit ⟨[(0, a0), (1, a1)], bx⟩ (fun s => some (.normal, s)) (fun i s => some (.exit i, s)) = F_power_Supply_Limit E n n0 a0 a1 bx := by kernel_rfl

theorem E_power_Supply_Limit (n : Nat) (a0 a1 : AV) (bx : Bx) : evFn cx0 ext0 (n + 1) 12 [a0, a1] bx = fin Try.prog [.tmp 4] (F_power_Supply_Limit (evFn cx0 ext0 n) n bx.length a0 a1 bx) := by
  rw [evFn_eq2 (cx := cx0) (c := c_power_Supply_Limit) rfl Try.func12 c_power_Supply_Limit_eq (of_decide_eq_true (by kernel_rfl)) d_power_Supply_Limit (of_decide_eq_true (by kernel_rfl))]
  exact congrArg (fin Try.prog [.tmp 4]) (F_power_Supply_Limit_eq (evFn cx0 ext0 n) n bx.length a0 a1 bx)

/-- (*scupper/power.Supply).Restore -/
def kp_power_Supply_Restore : Option (List Nat) := some [0, 3]
noncomputable def c_power_Supply_Restore : Code := Try.f13.body.getD .skip
noncomputable def F_power_Supply_Restore (_E : FnA) (_n _n0 : Nat) (a0 : AV) (bx : Bx) : Option (Ex × S) :=
  (pv bx (binA Try.prog .neq 24 a0 (.v (Go.Value.pointer none)))).bind fun r1 =>
  condA r1.1 ((pv r1.2 (nilA a0)).bind fun r2 =>
  (pv r2.2 (fieldAddrA Try.prog 44 r2.1 2)).bind fun r3 =>
  (stA Try.prog 4 r3.2 r3.1 (.v (Go.Value.bool false))).bind fun r4 =>
  (pv r4.2 (nilA a0)).bind fun r5 =>
  (pv r5.2 (fieldAddrA Try.prog 44 r5.1 0)).bind fun r6 =>
  (stA Try.prog 3 r6.2 r6.1 (.v (Go.Value.int Go.IntKind.i64 (-1)))).bind fun r7 =>
  some (.normal, ⟨[(3, r1.1), (0, a0)], r7.2⟩)) (some (.normal, ⟨[(3, r1.1), (0, a0)], r1.2⟩))
theorem c_power_Supply_Restore_eq : Try.f13.body = some c_power_Supply_Restore := by kernel_rfl
theorem d_power_Supply_Restore : drawsOk Try.prog md0 c_power_Supply_Restore = true := by kernel_rfl
theorem F_power_Supply_Restore_eq (E : FnA) (n n0 : Nat) (a0 : AV) (bx : Bx) : evK Try.prog md0 E 10 kp_power_Supply_Restore n n0 c_power_Supply_Restore ⟨[(0, a0)], bx⟩ (fun s => some (.normal, s)) (fun i s => some (.exit i, s)) = F_power_Supply_Restore E n n0 a0 bx := by kernel_rfl

theorem E_power_Supply_Restore (n : Nat) (a0 : AV) (bx : Bx) : evFn cx0 ext0 (n + 1) 13 [a0] bx = fin Try.prog [] (F_power_Supply_Restore (evFn cx0 ext0 n) n bx.length a0 bx) := by
  rw [evFn_eq2 (cx := cx0) (c := c_power_Supply_Restore) rfl Try.func13 c_power_Supply_Restore_eq (of_decide_eq_true (by kernel_rfl)) d_power_Supply_Restore (of_decide_eq_true (by kernel_rfl))]
  exact congrArg (fin Try.prog []) (F_power_Supply_Restore_eq (evFn cx0 ext0 n) n bx.length a0 bx)

/-- (*scupper/nvram.Words).Marked -/
def kp_nvram_Words_Marked : Option (List Nat) := some [0, 1, 4, 5]
noncomputable def c_nvram_Words_Marked : Code := Try.f14.body.getD .skip
noncomputable def F_nvram_Words_Marked (E : FnA) (_n _n0 : Nat) (a0 a1 : AV) (bx : Bx) : Option (Ex × S) :=
  (callA E md_nvram_Words_Marked bx 11 [a0]).bind fun r1 =>
  (pv r1.2 (tupA r1.1 0)).bind fun r2 =>
  (pv r2.2 (tupA r1.1 1)).bind fun r3 =>
  (callA E md_nvram_Words_Marked r3.2 19 [a1]).bind fun r4 =>
  (gsel true r4.2 (some (r2.1, r4.2)) r4.1).bind fun r5 =>
  (gsel true r5.2 (some (a1, r5.2)) r4.1).bind fun r6 =>
  (gsel true r6.2 (pv r6.2 (binA Try.prog .shr 32 r5.1 r6.1)) r4.1).bind fun r7 =>
  (gsel true r7.2 (pv r7.2 (binA Try.prog .and 32 r7.1 (.v (Go.Value.int Go.IntKind.u32 1)))) r4.1).bind fun r8 =>
  (gsel true r8.2 (pv r8.2 (binA Try.prog .eql 32 r8.1 (.v (Go.Value.int Go.IntKind.u32 1)))) r4.1).bind fun r9 =>
  (pv r9.2 (pickA r4.1 r9.1 (.v (Go.Value.bool false)))).bind fun r10 =>
  some (.ret, ⟨[(4, r10.1), (5, r2.1), (4, (.v (Go.Value.bool false))), (0, a0), (1, a1)], r10.2⟩)
theorem c_nvram_Words_Marked_eq : Try.f14.body = some c_nvram_Words_Marked := by kernel_rfl
theorem d_nvram_Words_Marked : drawsOk Try.prog md_nvram_Words_Marked c_nvram_Words_Marked = true := by kernel_rfl
theorem F_nvram_Words_Marked_eq (E : FnA) (n n0 : Nat) (a0 a1 : AV) (bx : Bx) : evK Try.prog md_nvram_Words_Marked E 21 kp_nvram_Words_Marked n n0 c_nvram_Words_Marked ⟨[(0, a0), (1, a1)], bx⟩ (fun s => some (.normal, s)) (fun i s => some (.exit i, s)) = F_nvram_Words_Marked E n n0 a0 a1 bx := by kernel_rfl

theorem E_nvram_Words_Marked (n : Nat) (a0 a1 : AV) (bx : Bx) : evFn cx0 ext0 (n + 1) 14 [a0, a1] bx = fin Try.prog [.tmp 4] (F_nvram_Words_Marked (evFn cx0 ext0 n) n bx.length a0 a1 bx) := by
  rw [evFn_eq2 (cx := cx0) (c := c_nvram_Words_Marked) rfl Try.func14 c_nvram_Words_Marked_eq (of_decide_eq_true (by kernel_rfl)) d_nvram_Words_Marked (of_decide_eq_true (by kernel_rfl))]
  exact congrArg (fin Try.prog [.tmp 4]) (F_nvram_Words_Marked_eq (evFn cx0 ext0 n) n bx.length a0 a1 bx)

/-- (*scupper/nvram.Words).Keep -/
def kp_nvram_Words_Keep : Option (List Nat) := some [0, 1, 4, 6]
noncomputable def c_nvram_Words_Keep : Code := Try.f15.body.getD .skip
noncomputable def F_nvram_Words_Keep (E : FnA) (_n _n0 : Nat) (a0 a1 : AV) (bx : Bx) : Option (Ex × S) :=
  (pv bx (binA Try.prog .eql 26 a0 (.v (Go.Value.pointer none)))).bind fun r1 =>
  condA r1.1 (some (.ret, ⟨[(4, (.v (Go.Value.int Go.IntKind.i64 1))), (6, r1.1), (4, (.v (Go.Value.int Go.IntKind.i64 0))), (0, a0), (1, a1)], r1.2⟩)) ((callA E md_nvram_Words_Keep r1.2 18 []).bind fun r2 =>
  (pv r2.2 (binA Try.prog .and 32 a1 r2.1)).bind fun r3 =>
  (callA E md_nvram_Words_Keep r3.2 20 [a0, r3.1]).bind fun r4 =>
  some (.ret, ⟨[(4, r4.1), (6, r1.1), (4, (.v (Go.Value.int Go.IntKind.i64 0))), (0, a0), (1, a1)], r4.2⟩))
theorem c_nvram_Words_Keep_eq : Try.f15.body = some c_nvram_Words_Keep := by kernel_rfl
theorem d_nvram_Words_Keep : drawsOk Try.prog md_nvram_Words_Keep c_nvram_Words_Keep = true := by kernel_rfl
theorem F_nvram_Words_Keep_eq (E : FnA) (n n0 : Nat) (a0 a1 : AV) (bx : Bx) : evK Try.prog md_nvram_Words_Keep E 12 kp_nvram_Words_Keep n n0 c_nvram_Words_Keep ⟨[(0, a0), (1, a1)], bx⟩ (fun s => some (.normal, s)) (fun i s => some (.exit i, s)) = F_nvram_Words_Keep E n n0 a0 a1 bx := by kernel_rfl

theorem E_nvram_Words_Keep (n : Nat) (a0 a1 : AV) (bx : Bx) : evFn cx0 ext0 (n + 1) 15 [a0, a1] bx = fin Try.prog [.tmp 4] (F_nvram_Words_Keep (evFn cx0 ext0 n) n bx.length a0 a1 bx) := by
  rw [evFn_eq2 (cx := cx0) (c := c_nvram_Words_Keep) rfl Try.func15 c_nvram_Words_Keep_eq (of_decide_eq_true (by kernel_rfl)) d_nvram_Words_Keep (of_decide_eq_true (by kernel_rfl))]
  exact congrArg (fin Try.prog [.tmp 4]) (F_nvram_Words_Keep_eq (evFn cx0 ext0 n) n bx.length a0 a1 bx)

/-- (*scupper/nvram.Words).Get -/
def kp_nvram_Words_Get : Option (List Nat) := some [0, 1, 4, 5, 6, 11]
noncomputable def c_nvram_Words_Get : Code := Try.f16.body.getD .skip
noncomputable def F_nvram_Words_Get (E : FnA) (_n _n0 : Nat) (a0 a1 : AV) (bx : Bx) : Option (Ex × S) :=
  (callA E md_nvram_Words_Get bx 22 [a0, a1]).bind fun r1 =>
  (pv r1.2 (binA Try.prog .neq 28 r1.1 (.v (Go.Value.int Go.IntKind.i64 0)))).bind fun r2 =>
  condA r2.1 (some (.ret, ⟨[(5, r1.1), (4, (.v (Go.Value.int Go.IntKind.u32 0))), (11, r2.1), (6, r1.1), (5, (.v (Go.Value.int Go.IntKind.i64 0))), (4, (.v (Go.Value.int Go.IntKind.u32 0))), (0, a0), (1, a1)], r2.2⟩)) ((pv r2.2 (nilA a0)).bind fun r3 =>
  (pv r3.2 (fieldAddrA Try.prog 47 r3.1 1)).bind fun r4 =>
  (pv r4.2 (indexAddrA Try.prog 45 r4.1 a1)).bind fun r5 =>
  (pv r5.2 (loadA Try.prog 32 r5.2 r5.1)).bind fun r6 =>
  some (.ret, ⟨[(5, (.v (Go.Value.int Go.IntKind.i64 0))), (4, r6.1), (11, r2.1), (6, r1.1), (5, (.v (Go.Value.int Go.IntKind.i64 0))), (4, (.v (Go.Value.int Go.IntKind.u32 0))), (0, a0), (1, a1)], r6.2⟩))
theorem c_nvram_Words_Get_eq : Try.f16.body = some c_nvram_Words_Get := by kernel_rfl
theorem d_nvram_Words_Get : drawsOk Try.prog md_nvram_Words_Get c_nvram_Words_Get = true := by kernel_rfl
theorem F_nvram_Words_Get_eq (E : FnA) (n n0 : Nat) (a0 a1 : AV) (bx : Bx) : evK Try.prog md_nvram_Words_Get E 19 kp_nvram_Words_Get n n0 c_nvram_Words_Get ⟨[(0, a0), (1, a1)], bx⟩ (fun s => some (.normal, s)) (fun i s => some (.exit i, s)) = F_nvram_Words_Get E n n0 a0 a1 bx := by kernel_rfl

theorem E_nvram_Words_Get (n : Nat) (a0 a1 : AV) (bx : Bx) : evFn cx0 ext0 (n + 1) 16 [a0, a1] bx = fin Try.prog [.tmp 4, .tmp 5] (F_nvram_Words_Get (evFn cx0 ext0 n) n bx.length a0 a1 bx) := by
  rw [evFn_eq2 (cx := cx0) (c := c_nvram_Words_Get) rfl Try.func16 c_nvram_Words_Get_eq (of_decide_eq_true (by kernel_rfl)) d_nvram_Words_Get (of_decide_eq_true (by kernel_rfl))]
  exact congrArg (fin Try.prog [.tmp 4, .tmp 5]) (F_nvram_Words_Get_eq (evFn cx0 ext0 n) n bx.length a0 a1 bx)

/-- (*scupper/nvram.Words).Poke -/
def kp_nvram_Words_Poke : Option (List Nat) := some [0, 1, 2, 6, 7, 12]
noncomputable def c_nvram_Words_Poke : Code := Try.f17.body.getD .skip
noncomputable def F_nvram_Words_Poke (E : FnA) (_n _n0 : Nat) (a0 a1 a2 : AV) (bx : Bx) : Option (Ex × S) :=
  (callA E md_nvram_Words_Poke bx 22 [a0, a1]).bind fun r1 =>
  (pv r1.2 (binA Try.prog .eql 28 r1.1 (.v (Go.Value.int Go.IntKind.i64 0)))).bind fun r2 =>
  condA r2.1 ((pv r2.2 (nilA a0)).bind fun r3 =>
  (pv r3.2 (fieldAddrA Try.prog 47 r3.1 1)).bind fun r4 =>
  (pv r4.2 (indexAddrA Try.prog 45 r4.1 a1)).bind fun r5 =>
  (stA Try.prog 32 r5.2 r5.1 a2).bind fun r6 =>
  some (.ret, ⟨[(6, r1.1), (12, r2.1), (7, r1.1), (6, (.v (Go.Value.int Go.IntKind.i64 0))), (0, a0), (1, a1), (2, a2)], r6.2⟩)) (some (.ret, ⟨[(6, r1.1), (12, r2.1), (7, r1.1), (6, (.v (Go.Value.int Go.IntKind.i64 0))), (0, a0), (1, a1), (2, a2)], r2.2⟩))
theorem c_nvram_Words_Poke_eq : Try.f17.body = some c_nvram_Words_Poke := by kernel_rfl
theorem d_nvram_Words_Poke : drawsOk Try.prog md_nvram_Words_Poke c_nvram_Words_Poke = true := by kernel_rfl
theorem F_nvram_Words_Poke_eq (E : FnA) (n n0 : Nat) (a0 a1 a2 : AV) (bx : Bx) : evK Try.prog md_nvram_Words_Poke E 20 kp_nvram_Words_Poke n n0 c_nvram_Words_Poke ⟨[(0, a0), (1, a1), (2, a2)], bx⟩ (fun s => some (.normal, s)) (fun i s => some (.exit i, s)) = F_nvram_Words_Poke E n n0 a0 a1 a2 bx := by kernel_rfl

theorem E_nvram_Words_Poke (n : Nat) (a0 a1 a2 : AV) (bx : Bx) : evFn cx0 ext0 (n + 1) 17 [a0, a1, a2] bx = fin Try.prog [.tmp 6] (F_nvram_Words_Poke (evFn cx0 ext0 n) n bx.length a0 a1 a2 bx) := by
  rw [evFn_eq2 (cx := cx0) (c := c_nvram_Words_Poke) rfl Try.func17 c_nvram_Words_Poke_eq (of_decide_eq_true (by kernel_rfl)) d_nvram_Words_Poke (of_decide_eq_true (by kernel_rfl))]
  exact congrArg (fin Try.prog [.tmp 6]) (F_nvram_Words_Poke_eq (evFn cx0 ext0 n) n bx.length a0 a1 a2 bx)

/-- scupper/nvram.All -/
def kp_nvram_All : Option (List Nat) := some [0]
noncomputable def c_nvram_All : Code := Try.f18.body.getD .skip
noncomputable def F_nvram_All (_E : FnA) (_n _n0 : Nat) (bx : Bx) : Option (Ex × S) :=
  some (.ret, ⟨[(0, (.v (Go.Value.int Go.IntKind.u32 255))), (0, (.v (Go.Value.int Go.IntKind.u32 0)))], bx⟩)
theorem c_nvram_All_eq : Try.f18.body = some c_nvram_All := by kernel_rfl
theorem d_nvram_All : drawsOk Try.prog md0 c_nvram_All = true := by kernel_rfl
theorem F_nvram_All_eq (E : FnA) (n n0 : Nat) (bx : Bx) : evK Try.prog md0 E 1 kp_nvram_All n n0 c_nvram_All ⟨[], bx⟩ (fun s => some (.normal, s)) (fun i s => some (.exit i, s)) = F_nvram_All E n n0  bx := by kernel_rfl

theorem E_nvram_All (n : Nat) (bx : Bx) : evFn cx0 ext0 (n + 1) 18 [] bx = fin Try.prog [.tmp 0] (F_nvram_All (evFn cx0 ext0 n) n bx.length  bx) := by
  rw [evFn_eq2 (cx := cx0) (c := c_nvram_All) rfl Try.func18 c_nvram_All_eq (of_decide_eq_true (by kernel_rfl)) d_nvram_All (of_decide_eq_true (by kernel_rfl))]
  exact congrArg (fin Try.prog [.tmp 0]) (F_nvram_All_eq (evFn cx0 ext0 n) n bx.length  bx)

/-- scupper/nvram.group -/
def kp_nvram_group : Option (List Nat) := some [0, 2]
noncomputable def c_nvram_group : Code := Try.f19.body.getD .skip
noncomputable def F_nvram_group (_E : FnA) (_n _n0 : Nat) (a0 : AV) (bx : Bx) : Option (Ex × S) :=
  (pv bx (binA Try.prog .geq 3 a0 (.v (Go.Value.int Go.IntKind.i64 0)))).bind fun r1 =>
  (gsel true r1.2 (some (a0, r1.2)) r1.1).bind fun r2 =>
  (gsel true r2.2 (pv r2.2 (binA Try.prog .lss 3 r2.1 (.v (Go.Value.int Go.IntKind.i64 8)))) r1.1).bind fun r3 =>
  (pv r3.2 (pickA r1.1 r3.1 (.v (Go.Value.bool false)))).bind fun r4 =>
  some (.ret, ⟨[(2, r4.1), (2, (.v (Go.Value.bool false))), (0, a0)], r4.2⟩)
theorem c_nvram_group_eq : Try.f19.body = some c_nvram_group := by kernel_rfl
theorem d_nvram_group : drawsOk Try.prog md0 c_nvram_group = true := by kernel_rfl
theorem F_nvram_group_eq (E : FnA) (n n0 : Nat) (a0 : AV) (bx : Bx) : evK Try.prog md0 E 9 kp_nvram_group n n0 c_nvram_group ⟨[(0, a0)], bx⟩ (fun s => some (.normal, s)) (fun i s => some (.exit i, s)) = F_nvram_group E n n0 a0 bx := by kernel_rfl

theorem E_nvram_group (n : Nat) (a0 : AV) (bx : Bx) : evFn cx0 ext0 (n + 1) 19 [a0] bx = fin Try.prog [.tmp 2] (F_nvram_group (evFn cx0 ext0 n) n bx.length a0 bx) := by
  rw [evFn_eq2 (cx := cx0) (c := c_nvram_group) rfl Try.func19 c_nvram_group_eq (of_decide_eq_true (by kernel_rfl)) d_nvram_group (of_decide_eq_true (by kernel_rfl))]
  exact congrArg (fin Try.prog [.tmp 2]) (F_nvram_group_eq (evFn cx0 ext0 n) n bx.length a0 bx)

/-- (*scupper/nvram.Words).to -/
def kp_nvram_Words_to : Option (List Nat) := some [0, 1, 2, 3, 4, 6, 7, 15, 16, 17, 18, 27]
noncomputable def c_nvram_Words_to : Code := Try.f20.body.getD .skip
noncomputable def L_nvram_Words_to_0 (E : FnA) (_n _n0 : Nat) (s : S) : Option (Ex × S) :=
  (pv s.bx (binA Try.prog .lss 3 (get s.env 17) (get s.env 16))).bind fun r31 =>
  condA r31.1 ((pv r31.2 (indexAddrA Try.prog 50 (get (prune kp_nvram_Words_to s.env) 15) (get (prune kp_nvram_Words_to s.env) 17))).bind fun r32 =>
  (pv r32.2 (loadA Try.prog 49 r32.2 r32.1)).bind fun r33 =>
  (allocA Try.prog r33.2 49).bind fun r34 =>
  (stA Try.prog 49 r34.2 r34.1 r33.1).bind fun r35 =>
  (pv r35.2 (loadA Try.prog 26 r35.2 (get (prune kp_nvram_Words_to (prune kp_nvram_Words_to s.env)) 2))).bind fun r36 =>
  (pv r36.2 (nilA r36.1)).bind fun r37 =>
  (pv r37.2 (fieldAddrA Try.prog 47 r37.1 0)).bind fun r38 =>
  (pv r38.2 (loadA Try.prog 24 r38.2 r38.1)).bind fun r39 =>
  (callA E md_nvram_Words_to r39.2 25 [r39.1]).bind fun r40 =>
  (pv r40.2 (binA Try.prog .neq 28 r40.1 (.v (Go.Value.int Go.IntKind.i64 0)))).bind fun r41 =>
  condA r41.1 (some (.ret, ⟨((4, r40.1) :: (27, r41.1) :: (7, r40.1) :: (6, r34.1) :: (18, r31.1) :: (prune kp_nvram_Words_to (prune kp_nvram_Words_to (prune kp_nvram_Words_to (prune kp_nvram_Words_to (prune kp_nvram_Words_to s.env)))))), r41.2⟩)) ((pv r41.2 (loadA Try.prog 26 r41.2 (get (prune kp_nvram_Words_to (prune kp_nvram_Words_to (prune kp_nvram_Words_to (prune kp_nvram_Words_to s.env)))) 2))).bind fun r42 =>
  (pv r42.2 (fieldAddrA Try.prog 49 r34.1 0)).bind fun r43 =>
  (pv r43.2 (loadA Try.prog 3 r43.2 r43.1)).bind fun r44 =>
  (pv r44.2 (fieldAddrA Try.prog 49 r34.1 1)).bind fun r45 =>
  (pv r45.2 (loadA Try.prog 42 r45.2 r45.1)).bind fun r46 =>
  (callV E (mdV md_nvram_Words_to) r46.2 [] r46.1).bind fun r47 =>
  (pv r47.2 (nilA r42.1)).bind fun r48 =>
  (pv r48.2 (fieldAddrA Try.prog 47 r48.1 1)).bind fun r49 =>
  (pv r49.2 (indexAddrA Try.prog 45 r49.1 r44.1)).bind fun r50 =>
  (stA Try.prog 32 r50.2 r50.1 r47.1).bind fun r51 =>
  (pv r51.2 (binA Try.prog .add 3 (get (prune kp_nvram_Words_to (prune kp_nvram_Words_to (prune kp_nvram_Words_to (prune kp_nvram_Words_to (prune kp_nvram_Words_to s.env))))) 17) (.v (Go.Value.int Go.IntKind.i64 1)))).bind fun r52 =>
  some (.normal, ⟨((17, r52.1) :: (27, r41.1) :: (7, r40.1) :: (6, r34.1) :: (18, r31.1) :: (prune kp_nvram_Words_to (prune kp_nvram_Words_to (prune kp_nvram_Words_to (prune kp_nvram_Words_to (prune kp_nvram_Words_to (prune kp_nvram_Words_to s.env))))))), r52.2⟩))) (some (.exit 0, ⟨((18, r31.1) :: (prune kp_nvram_Words_to s.env)), r31.2⟩))
noncomputable def B_nvram_Words_to_0 (E : FnA) (_n _n0 : Nat) (x17 x16 x15 x4 x3 x2 x0 x1 : AV) (y : Bx) : Option (Ex × S) :=
  (pv y (binA Try.prog .lss 3 x17 x16)).bind fun r9 =>
  condA r9.1 ((pv r9.2 (indexAddrA Try.prog 50 x15 x17)).bind fun r10 =>
  (pv r10.2 (loadA Try.prog 49 r10.2 r10.1)).bind fun r11 =>
  (allocA Try.prog r11.2 49).bind fun r12 =>
  (stA Try.prog 49 r12.2 r12.1 r11.1).bind fun r13 =>
  (pv r13.2 (loadA Try.prog 26 r13.2 x2)).bind fun r14 =>
  (pv r14.2 (nilA r14.1)).bind fun r15 =>
  (pv r15.2 (fieldAddrA Try.prog 47 r15.1 0)).bind fun r16 =>
  (pv r16.2 (loadA Try.prog 24 r16.2 r16.1)).bind fun r17 =>
  (callA E md_nvram_Words_to r17.2 25 [r17.1]).bind fun r18 =>
  (pv r18.2 (binA Try.prog .neq 28 r18.1 (.v (Go.Value.int Go.IntKind.i64 0)))).bind fun r19 =>
  condA r19.1 (some (.ret, ⟨[(4, r18.1), (27, r19.1), (7, r18.1), (6, r12.1), (18, r9.1), (17, x17), (16, x16), (15, x15), (4, x4), (3, x3), (2, x2), (0, x0), (1, x1)], r19.2⟩)) ((pv r19.2 (loadA Try.prog 26 r19.2 x2)).bind fun r20 =>
  (pv r20.2 (fieldAddrA Try.prog 49 r12.1 0)).bind fun r21 =>
  (pv r21.2 (loadA Try.prog 3 r21.2 r21.1)).bind fun r22 =>
  (pv r22.2 (fieldAddrA Try.prog 49 r12.1 1)).bind fun r23 =>
  (pv r23.2 (loadA Try.prog 42 r23.2 r23.1)).bind fun r24 =>
  (callV E (mdV md_nvram_Words_to) r24.2 [] r24.1).bind fun r25 =>
  (pv r25.2 (nilA r20.1)).bind fun r26 =>
  (pv r26.2 (fieldAddrA Try.prog 47 r26.1 1)).bind fun r27 =>
  (pv r27.2 (indexAddrA Try.prog 45 r27.1 r22.1)).bind fun r28 =>
  (stA Try.prog 32 r28.2 r28.1 r25.1).bind fun r29 =>
  (pv r29.2 (binA Try.prog .add 3 x17 (.v (Go.Value.int Go.IntKind.i64 1)))).bind fun r30 =>
  some (.normal, ⟨[(17, r30.1), (27, r19.1), (7, r18.1), (6, r12.1), (18, r9.1), (17, x17), (16, x16), (15, x15), (4, x4), (3, x3), (2, x2), (0, x0), (1, x1)], r30.2⟩))) (some (.exit 0, ⟨[(18, r9.1), (17, x17), (16, x16), (15, x15), (4, x4), (3, x3), (2, x2), (0, x0), (1, x1)], r9.2⟩))
theorem L_nvram_Words_to_0_lit {E : FnA} {n n0 : Nat} {x17 x16 x15 x4 x3 x2 x0 x1 : AV} {y : Bx} {Q : Ex → S → Prop} (h : Ends (B_nvram_Words_to_0 E n n0 x17 x16 x15 x4 x3 x2 x0 x1 y) Q) : Ends (L_nvram_Words_to_0 E n n0 ⟨[(17, x17), (16, x16), (15, x15), (4, x4), (3, x3), (2, x2), (0, x0), (1, x1)], y⟩) Q := by
  rw [show L_nvram_Words_to_0 E n n0 ⟨[(17, x17), (16, x16), (15, x15), (4, x4), (3, x3), (2, x2), (0, x0), (1, x1)], y⟩ = B_nvram_Words_to_0 E n n0 x17 x16 x15 x4 x3 x2 x0 x1 y by kernel_rfl]
  exact h
noncomputable def K_nvram_Words_to_0 (_E : FnA) (_n _n0 : Nat) (t : S) : Option (Ex × S) :=
  some (.ret, ⟨((4, (.v (Go.Value.int Go.IntKind.i64 0))) :: (prune kp_nvram_Words_to t.env)), t.bx⟩)
noncomputable def X_nvram_Words_to_0 (_E : FnA) (_n _n0 : Nat) (i : Nat) (t : S) : Option (Ex × S) :=
  if i = 0 then some (.ret, ⟨((4, (.v (Go.Value.int Go.IntKind.i64 0))) :: (prune kp_nvram_Words_to t.env)), t.bx⟩) else some (.exit i, ⟨t.env, t.bx⟩)
noncomputable def X_nvram_Words_to_0_0 (_E : FnA) (_n _n0 : Nat) (x18 x17 x16 x15 x4 x3 x2 x0 x1 : AV) (y : Bx) : Option (Ex × S) :=
  some (.ret, ⟨[(4, (.v (Go.Value.int Go.IntKind.i64 0))), (18, x18), (17, x17), (16, x16), (15, x15), (4, x4), (3, x3), (2, x2), (0, x0), (1, x1)], y⟩)
theorem X_nvram_Words_to_0_0_lit {E : FnA} {n n0 : Nat} {x18 x17 x16 x15 x4 x3 x2 x0 x1 : AV} {y : Bx} {Q : Ex → S → Prop} (h : Ends (X_nvram_Words_to_0_0 E n n0 x18 x17 x16 x15 x4 x3 x2 x0 x1 y) Q) : Ends (X_nvram_Words_to_0 E n n0 0 ⟨[(18, x18), (17, x17), (16, x16), (15, x15), (4, x4), (3, x3), (2, x2), (0, x0), (1, x1)], y⟩) Q := by
  rw [show X_nvram_Words_to_0 E n n0 0 ⟨[(18, x18), (17, x17), (16, x16), (15, x15), (4, x4), (3, x3), (2, x2), (0, x0), (1, x1)], y⟩ = X_nvram_Words_to_0_0 E n n0 x18 x17 x16 x15 x4 x3 x2 x0 x1 y by kernel_rfl]
  exact h
noncomputable def F_nvram_Words_to (E : FnA) (n n0 : Nat) (a0 a1 : AV) (bx : Bx) : Option (Ex × S) :=
  (boxA bx a0).bind fun r1 =>
  (boxA r1.2 a1).bind fun r2 =>
  (pv r2.2 (buildA Try.prog 49 [(0, (.v (Go.Value.int Go.IntKind.i64 1))), (1, (AV.fn 23 [] [r2.1]))])).bind fun r3 =>
  (pv r3.2 (buildA Try.prog 49 [(0, (.v (Go.Value.int Go.IntKind.i64 0))), (1, (AV.fn 24 [] [r1.1]))])).bind fun r4 =>
  (pv r4.2 (loadA Try.prog 26 r4.2 r1.1)).bind fun r5 =>
  (pv r5.2 (buildA Try.prog 49 [(0, (.v (Go.Value.int Go.IntKind.i64 2))), (1, (AV.fn 21 [r5.1] []))])).bind fun r6 =>
  (buildSliceA Try.prog r6.2 50 3 [(0, r3.1), (1, r4.1), (2, r6.1)]).bind fun r7 =>
  (pv r7.2 (lenA Try.prog 50 r7.1)).bind fun r8 =>
  exitA (iter ⟨[(17, (.v (Go.Value.int Go.IntKind.i64 0))), (16, r8.1), (15, r7.1), (4, (.v (Go.Value.int Go.IntKind.i64 0))), (3, r2.1), (2, r1.1), (0, a0), (1, a1)], r8.2⟩ (L_nvram_Words_to_0 E n n0) n ⟨[(17, (.v (Go.Value.int Go.IntKind.i64 0))), (16, r8.1), (15, r7.1), (4, (.v (Go.Value.int Go.IntKind.i64 0))), (3, r2.1), (2, r1.1), (0, a0), (1, a1)], r8.2⟩) (K_nvram_Words_to_0 E n n0) (X_nvram_Words_to_0 E n n0)
theorem c_nvram_Words_to_eq : Try.f20.body = some c_nvram_Words_to := by kernel_rfl
theorem d_nvram_Words_to : drawsOk Try.prog md_nvram_Words_to c_nvram_Words_to = true := by kernel_rfl
theorem F_nvram_Words_to_eq (E : FnA) (n n0 : Nat) (a0 a1 : AV) (bx : Bx) : evK Try.prog md_nvram_Words_to E 39 kp_nvram_Words_to n n0 c_nvram_Words_to ⟨[(0, a0), (1, a1)], bx⟩ (fun s => some (.normal, s)) (fun i s => some (.exit i, s)) = F_nvram_Words_to E n n0 a0 a1 bx := by kernel_rfl

theorem E_nvram_Words_to (n : Nat) (a0 a1 : AV) (bx : Bx) : evFn cx0 ext0 (n + 1) 20 [a0, a1] bx = fin Try.prog [.tmp 4] (F_nvram_Words_to (evFn cx0 ext0 n) n bx.length a0 a1 bx) := by
  rw [evFn_eq2 (cx := cx0) (c := c_nvram_Words_to) rfl Try.func20 c_nvram_Words_to_eq (of_decide_eq_true (by kernel_rfl)) d_nvram_Words_to (of_decide_eq_true (by kernel_rfl))]
  exact congrArg (fin Try.prog [.tmp 4]) (F_nvram_Words_to_eq (evFn cx0 ext0 n) n bx.length a0 a1 bx)

/-- (*scupper/nvram.Words).total -/
def kp_nvram_Words_total : Option (List Nat) := some [0, 2, 3, 4]
noncomputable def c_nvram_Words_total : Code := Try.f21.body.getD .skip
noncomputable def F_nvram_Words_total (E : FnA) (_n _n0 : Nat) (a0 : AV) (bx : Bx) : Option (Ex × S) :=
  (allocA Try.prog bx 51).bind fun r1 =>
  (allocA Try.prog r1.2 51).bind fun r2 =>
  (pv r2.2 (nilA a0)).bind fun r3 =>
  (pv r3.2 (fieldAddrA Try.prog 47 r3.1 1)).bind fun r4 =>
  (pv r4.2 (indexAddrA Try.prog 45 r4.1 (.v (Go.Value.int Go.IntKind.i64 0)))).bind fun r5 =>
  (pv r5.2 (loadA Try.prog 32 r5.2 r5.1)).bind fun r6 =>
  (callA E md_nvram_Words_total r6.2 26 [r6.1]).bind fun r7 =>
  (pv r7.2 (nilA a0)).bind fun r8 =>
  (pv r8.2 (fieldAddrA Try.prog 47 r8.1 1)).bind fun r9 =>
  (pv r9.2 (indexAddrA Try.prog 45 r9.1 (.v (Go.Value.int Go.IntKind.i64 1)))).bind fun r10 =>
  (pv r10.2 (loadA Try.prog 32 r10.2 r10.1)).bind fun r11 =>
  (callA E md_nvram_Words_total r11.2 26 [r11.1]).bind fun r12 =>
  (stA Try.prog 51 r12.2 r1.1 r7.1).bind fun r13 =>
  (stA Try.prog 51 r13.2 r2.1 r12.1).bind fun r14 =>
  (pv r14.2 (sliceA Try.prog r14.2 51 r1.1 none none none)).bind fun r15 =>
  (pv r15.2 (sliceA Try.prog r15.2 51 r2.1 none none none)).bind fun r16 =>
  (buildSliceA Try.prog r16.2 55 2 [(0, r15.1), (1, r16.1)]).bind fun r17 =>
  (callA E md_nvram_Words_total r17.2 27 [r17.1]).bind fun r18 =>
  some (.ret, ⟨[(2, r18.1), (4, r2.1), (3, r1.1), (2, (.v (Go.Value.int Go.IntKind.u32 0))), (0, a0)], r18.2⟩)
theorem c_nvram_Words_total_eq : Try.f21.body = some c_nvram_Words_total := by kernel_rfl
theorem d_nvram_Words_total : drawsOk Try.prog md_nvram_Words_total c_nvram_Words_total = true := by kernel_rfl
theorem F_nvram_Words_total_eq (E : FnA) (n n0 : Nat) (a0 : AV) (bx : Bx) : evK Try.prog md_nvram_Words_total E 21 kp_nvram_Words_total n n0 c_nvram_Words_total ⟨[(0, a0)], bx⟩ (fun s => some (.normal, s)) (fun i s => some (.exit i, s)) = F_nvram_Words_total E n n0 a0 bx := by kernel_rfl

theorem E_nvram_Words_total (n : Nat) (a0 : AV) (bx : Bx) : evFn cx0 ext0 (n + 1) 21 [a0] bx = fin Try.prog [.tmp 2] (F_nvram_Words_total (evFn cx0 ext0 n) n bx.length a0 bx) := by
  rw [evFn_eq2 (cx := cx0) (c := c_nvram_Words_total) rfl Try.func21 c_nvram_Words_total_eq (of_decide_eq_true (by kernel_rfl)) d_nvram_Words_total (of_decide_eq_true (by kernel_rfl))]
  exact congrArg (fin Try.prog [.tmp 2]) (F_nvram_Words_total_eq (evFn cx0 ext0 n) n bx.length a0 bx)

/-- (*scupper/nvram.Words).word -/
def kp_nvram_Words_word : Option (List Nat) := some [0, 1, 4, 5, 8]
noncomputable def c_nvram_Words_word : Code := Try.f22.body.getD .skip
noncomputable def F_nvram_Words_word (_E : FnA) (_n _n0 : Nat) (a0 a1 : AV) (bx : Bx) : Option (Ex × S) :=
  (pv bx (binA Try.prog .eql 26 a0 (.v (Go.Value.pointer none)))).bind fun r1 =>
  condA r1.1 (some (.ret, ⟨[(4, (.v (Go.Value.int Go.IntKind.i64 1))), (5, r1.1), (4, (.v (Go.Value.int Go.IntKind.i64 0))), (0, a0), (1, a1)], r1.2⟩)) ((pv r1.2 (binA Try.prog .lss 3 a1 (.v (Go.Value.int Go.IntKind.i64 0)))).bind fun r2 =>
  (gsel false r2.2 (some (a1, r2.2)) r2.1).bind fun r3 =>
  (gsel false r3.2 (pv r3.2 (binA Try.prog .geq 3 r3.1 (.v (Go.Value.int Go.IntKind.i64 3)))) r2.1).bind fun r4 =>
  (pv r4.2 (pickA r2.1 (.v (Go.Value.bool true)) r4.1)).bind fun r5 =>
  condA r5.1 (some (.ret, ⟨[(4, (.v (Go.Value.int Go.IntKind.i64 2))), (8, r5.1), (5, r1.1), (4, (.v (Go.Value.int Go.IntKind.i64 0))), (0, a0), (1, a1)], r5.2⟩)) (some (.ret, ⟨[(4, (.v (Go.Value.int Go.IntKind.i64 0))), (8, r5.1), (5, r1.1), (4, (.v (Go.Value.int Go.IntKind.i64 0))), (0, a0), (1, a1)], r5.2⟩)))
theorem c_nvram_Words_word_eq : Try.f22.body = some c_nvram_Words_word := by kernel_rfl
theorem d_nvram_Words_word : drawsOk Try.prog md_nvram_Words_word c_nvram_Words_word = true := by kernel_rfl
theorem F_nvram_Words_word_eq (E : FnA) (n n0 : Nat) (a0 a1 : AV) (bx : Bx) : evK Try.prog md_nvram_Words_word E 15 kp_nvram_Words_word n n0 c_nvram_Words_word ⟨[(0, a0), (1, a1)], bx⟩ (fun s => some (.normal, s)) (fun i s => some (.exit i, s)) = F_nvram_Words_word E n n0 a0 a1 bx := by kernel_rfl

theorem E_nvram_Words_word (n : Nat) (a0 a1 : AV) (bx : Bx) : evFn cx0 ext0 (n + 1) 22 [a0, a1] bx = fin Try.prog [.tmp 4] (F_nvram_Words_word (evFn cx0 ext0 n) n bx.length a0 a1 bx) := by
  rw [evFn_eq2 (cx := cx0) (c := c_nvram_Words_word) rfl Try.func22 c_nvram_Words_word_eq (of_decide_eq_true (by kernel_rfl)) d_nvram_Words_word (of_decide_eq_true (by kernel_rfl))]
  exact congrArg (fin Try.prog [.tmp 4]) (F_nvram_Words_word_eq (evFn cx0 ext0 n) n bx.length a0 a1 bx)

/-- (*scupper/nvram.Words).to$1 -/
def kp_nvram_Words_to_1 : Option (List Nat) := some [0, 1]
noncomputable def c_nvram_Words_to_1 : Code := Try.f23.body.getD .skip
noncomputable def F_nvram_Words_to_1 (_E : FnA) (_n _n0 : Nat) (a0 : AV) (bx : Bx) : Option (Ex × S) :=
  (pv bx (loadA Try.prog 32 bx a0)).bind fun r1 =>
  some (.ret, ⟨[(1, r1.1), (1, (.v (Go.Value.int Go.IntKind.u32 0))), (0, a0)], r1.2⟩)
theorem c_nvram_Words_to_1_eq : Try.f23.body = some c_nvram_Words_to_1 := by kernel_rfl
theorem d_nvram_Words_to_1 : drawsOk Try.prog md_nvram_Words_to_1 c_nvram_Words_to_1 = true := by kernel_rfl
theorem F_nvram_Words_to_1_eq (E : FnA) (n n0 : Nat) (a0 : AV) (bx : Bx) : evK Try.prog md_nvram_Words_to_1 E 3 kp_nvram_Words_to_1 n n0 c_nvram_Words_to_1 ⟨[(0, a0)], bx⟩ (fun s => some (.normal, s)) (fun i s => some (.exit i, s)) = F_nvram_Words_to_1 E n n0 a0 bx := by kernel_rfl

theorem E_nvram_Words_to_1 (n : Nat) (a0 : AV) (bx : Bx) : evFn cx0 ext0 (n + 1) 23 [a0] bx = fin Try.prog [.tmp 1] (F_nvram_Words_to_1 (evFn cx0 ext0 n) n bx.length a0 bx) := by
  rw [evFn_eq2 (cx := cx0) (c := c_nvram_Words_to_1) rfl Try.func23 c_nvram_Words_to_1_eq (of_decide_eq_true (by kernel_rfl)) d_nvram_Words_to_1 (of_decide_eq_true (by kernel_rfl))]
  exact congrArg (fin Try.prog [.tmp 1]) (F_nvram_Words_to_1_eq (evFn cx0 ext0 n) n bx.length a0 bx)

/-- (*scupper/nvram.Words).to$2 -/
def kp_nvram_Words_to_2 : Option (List Nat) := some [0, 1]
noncomputable def c_nvram_Words_to_2 : Code := Try.f24.body.getD .skip
noncomputable def F_nvram_Words_to_2 (_E : FnA) (_n _n0 : Nat) (a0 : AV) (bx : Bx) : Option (Ex × S) :=
  (pv bx (loadA Try.prog 26 bx a0)).bind fun r1 =>
  (pv r1.2 (nilA r1.1)).bind fun r2 =>
  (pv r2.2 (fieldAddrA Try.prog 47 r2.1 1)).bind fun r3 =>
  (pv r3.2 (indexAddrA Try.prog 45 r3.1 (.v (Go.Value.int Go.IntKind.i64 0)))).bind fun r4 =>
  (pv r4.2 (loadA Try.prog 32 r4.2 r4.1)).bind fun r5 =>
  (pv r5.2 (binA Try.prog .add 32 r5.1 (.v (Go.Value.int Go.IntKind.u32 1)))).bind fun r6 =>
  some (.ret, ⟨[(1, r6.1), (1, (.v (Go.Value.int Go.IntKind.u32 0))), (0, a0)], r6.2⟩)
theorem c_nvram_Words_to_2_eq : Try.f24.body = some c_nvram_Words_to_2 := by kernel_rfl
theorem d_nvram_Words_to_2 : drawsOk Try.prog md_nvram_Words_to_2 c_nvram_Words_to_2 = true := by kernel_rfl
theorem F_nvram_Words_to_2_eq (E : FnA) (n n0 : Nat) (a0 : AV) (bx : Bx) : evK Try.prog md_nvram_Words_to_2 E 8 kp_nvram_Words_to_2 n n0 c_nvram_Words_to_2 ⟨[(0, a0)], bx⟩ (fun s => some (.normal, s)) (fun i s => some (.exit i, s)) = F_nvram_Words_to_2 E n n0 a0 bx := by kernel_rfl

theorem E_nvram_Words_to_2 (n : Nat) (a0 : AV) (bx : Bx) : evFn cx0 ext0 (n + 1) 24 [a0] bx = fin Try.prog [.tmp 1] (F_nvram_Words_to_2 (evFn cx0 ext0 n) n bx.length a0 bx) := by
  rw [evFn_eq2 (cx := cx0) (c := c_nvram_Words_to_2) rfl Try.func24 c_nvram_Words_to_2_eq (of_decide_eq_true (by kernel_rfl)) d_nvram_Words_to_2 (of_decide_eq_true (by kernel_rfl))]
  exact congrArg (fin Try.prog [.tmp 1]) (F_nvram_Words_to_2_eq (evFn cx0 ext0 n) n bx.length a0 bx)

/-- scupper/num.Put32 -/
def kp_num_Put32 : Option (List Nat) := some [0, 2, 3, 4, 5, 6]
noncomputable def c_num_Put32 : Code := Try.f26.body.getD .skip
noncomputable def L_num_Put32_0 (_E : FnA) (_n _n0 : Nat) (s : S) : Option (Ex × S) :=
  (pv s.bx (binA Try.prog .lss 3 (get s.env 5) (.v (Go.Value.int Go.IntKind.i64 4)))).bind fun r10 =>
  condA r10.1 ((pv r10.2 (binA Try.prog .mul 3 (.v (Go.Value.int Go.IntKind.i64 8)) (get (prune kp_num_Put32 s.env) 5))).bind fun r11 =>
  (pv r11.2 (binA Try.prog .shr 32 (get (prune kp_num_Put32 (prune kp_num_Put32 s.env)) 0) r11.1)).bind fun r12 =>
  (convA Try.prog r12.2 32 5 r12.1).bind fun r13 =>
  (pv r13.2 (indexAddrA Try.prog 51 (get (prune kp_num_Put32 (prune kp_num_Put32 s.env)) 3) (get (prune kp_num_Put32 s.env) 5))).bind fun r14 =>
  (stA Try.prog 5 r14.2 r14.1 r13.1).bind fun r15 =>
  (pv r15.2 (binA Try.prog .add 3 (get (prune kp_num_Put32 (prune kp_num_Put32 (prune kp_num_Put32 s.env))) 5) (.v (Go.Value.int Go.IntKind.i64 1)))).bind fun r16 =>
  some (.normal, ⟨((5, r16.1) :: (4, (get (prune kp_num_Put32 s.env) 5)) :: (6, r10.1) :: (prune kp_num_Put32 (prune kp_num_Put32 (prune kp_num_Put32 (prune kp_num_Put32 s.env))))), r16.2⟩)) (some (.exit 0, ⟨((6, r10.1) :: (prune kp_num_Put32 s.env)), r10.2⟩))
noncomputable def B_num_Put32_0 (_E : FnA) (_n _n0 : Nat) (x5 x3 x2 x0 : AV) (y : Bx) : Option (Ex × S) :=
  (pv y (binA Try.prog .lss 3 x5 (.v (Go.Value.int Go.IntKind.i64 4)))).bind fun r3 =>
  condA r3.1 ((pv r3.2 (binA Try.prog .mul 3 (.v (Go.Value.int Go.IntKind.i64 8)) x5)).bind fun r4 =>
  (pv r4.2 (binA Try.prog .shr 32 x0 r4.1)).bind fun r5 =>
  (convA Try.prog r5.2 32 5 r5.1).bind fun r6 =>
  (pv r6.2 (indexAddrA Try.prog 51 x3 x5)).bind fun r7 =>
  (stA Try.prog 5 r7.2 r7.1 r6.1).bind fun r8 =>
  (pv r8.2 (binA Try.prog .add 3 x5 (.v (Go.Value.int Go.IntKind.i64 1)))).bind fun r9 =>
  some (.normal, ⟨[(5, r9.1), (4, x5), (6, r3.1), (5, x5), (3, x3), (2, x2), (0, x0)], r9.2⟩)) (some (.exit 0, ⟨[(6, r3.1), (5, x5), (3, x3), (2, x2), (0, x0)], r3.2⟩))
theorem L_num_Put32_0_lit {E : FnA} {n n0 : Nat} {x5 x3 x2 x0 : AV} {y : Bx} {Q : Ex → S → Prop} (h : Ends (B_num_Put32_0 E n n0 x5 x3 x2 x0 y) Q) : Ends (L_num_Put32_0 E n n0 ⟨[(5, x5), (3, x3), (2, x2), (0, x0)], y⟩) Q := by
  rw [show L_num_Put32_0 E n n0 ⟨[(5, x5), (3, x3), (2, x2), (0, x0)], y⟩ = B_num_Put32_0 E n n0 x5 x3 x2 x0 y by kernel_rfl]
  exact h
noncomputable def K_num_Put32_0 (_E : FnA) (_n _n0 : Nat) (t : S) : Option (Ex × S) :=
  (pv t.bx (loadA Try.prog 51 t.bx (get t.env 3))).bind fun r19 =>
  (stA Try.prog 51 r19.2 (get t.env 2) r19.1).bind fun r20 =>
  some (.ret, ⟨(prune kp_num_Put32 t.env), r20.2⟩)
noncomputable def X_num_Put32_0 (_E : FnA) (_n _n0 : Nat) (i : Nat) (t : S) : Option (Ex × S) :=
  if i = 0 then (pv t.bx (loadA Try.prog 51 t.bx (get t.env 3))).bind fun r17 =>
  (stA Try.prog 51 r17.2 (get t.env 2) r17.1).bind fun r18 =>
  some (.ret, ⟨(prune kp_num_Put32 t.env), r18.2⟩) else some (.exit i, ⟨t.env, t.bx⟩)
noncomputable def X_num_Put32_0_0 (_E : FnA) (_n _n0 : Nat) (x6 x5 x3 x2 x0 : AV) (y : Bx) : Option (Ex × S) :=
  (pv y (loadA Try.prog 51 y x3)).bind fun r21 =>
  (stA Try.prog 51 r21.2 x2 r21.1).bind fun r22 =>
  some (.ret, ⟨[(6, x6), (5, x5), (3, x3), (2, x2), (0, x0)], r22.2⟩)
theorem X_num_Put32_0_0_lit {E : FnA} {n n0 : Nat} {x6 x5 x3 x2 x0 : AV} {y : Bx} {Q : Ex → S → Prop} (h : Ends (X_num_Put32_0_0 E n n0 x6 x5 x3 x2 x0 y) Q) : Ends (X_num_Put32_0 E n n0 0 ⟨[(6, x6), (5, x5), (3, x3), (2, x2), (0, x0)], y⟩) Q := by
  rw [show X_num_Put32_0 E n n0 0 ⟨[(6, x6), (5, x5), (3, x3), (2, x2), (0, x0)], y⟩ = X_num_Put32_0_0 E n n0 x6 x5 x3 x2 x0 y by kernel_rfl]
  exact h
noncomputable def F_num_Put32 (E : FnA) (n n0 : Nat) (a0 : AV) (bx : Bx) : Option (Ex × S) :=
  (allocA Try.prog bx 51).bind fun r1 =>
  (allocA Try.prog r1.2 51).bind fun r2 =>
  exitA (iter ⟨[(5, (.v (Go.Value.int Go.IntKind.i64 0))), (3, r2.1), (2, r1.1), (0, a0)], r2.2⟩ (L_num_Put32_0 E n n0) n ⟨[(5, (.v (Go.Value.int Go.IntKind.i64 0))), (3, r2.1), (2, r1.1), (0, a0)], r2.2⟩) (K_num_Put32_0 E n n0) (X_num_Put32_0 E n n0)
theorem c_num_Put32_eq : Try.f26.body = some c_num_Put32 := by kernel_rfl
theorem d_num_Put32 : drawsOk Try.prog md0 c_num_Put32 = true := by kernel_rfl
theorem F_num_Put32_eq (E : FnA) (n n0 : Nat) (a0 : AV) (bx : Bx) : evK Try.prog md0 E 17 kp_num_Put32 n n0 c_num_Put32 ⟨[(0, a0)], bx⟩ (fun s => some (.normal, s)) (fun i s => some (.exit i, s)) = F_num_Put32 E n n0 a0 bx := by kernel_rfl

theorem E_num_Put32 (n : Nat) (a0 : AV) (bx : Bx) : evFn cx0 ext0 (n + 1) 26 [a0] bx = fin Try.prog [.cell 2 51] (F_num_Put32 (evFn cx0 ext0 n) n bx.length a0 bx) := by
  rw [evFn_eq2 (cx := cx0) (c := c_num_Put32) rfl Try.func26 c_num_Put32_eq (of_decide_eq_true (by kernel_rfl)) d_num_Put32 (of_decide_eq_true (by kernel_rfl))]
  exact congrArg (fin Try.prog [.cell 2 51]) (F_num_Put32_eq (evFn cx0 ext0 n) n bx.length a0 bx)

/-- scupper/crc.Of -/
def kp_crc_Of : Option (List Nat) := some [0, 2, 3, 5, 7, 8, 9, 10]
noncomputable def c_crc_Of : Code := Try.f27.body.getD .skip
noncomputable def L_crc_Of_0 (E : FnA) (_n _n0 : Nat) (s : S) : Option (Ex × S) :=
  (pv s.bx (binA Try.prog .lss 3 (get s.env 9) (get s.env 8))).bind fun r12 =>
  condA r12.1 ((pv r12.2 (indexAddrA Try.prog 55 (get (prune kp_crc_Of s.env) 7) (get (prune kp_crc_Of s.env) 9))).bind fun r13 =>
  (pv r13.2 (loadA Try.prog 54 r13.2 r13.1)).bind fun r14 =>
  (pv r14.2 (loadA Try.prog 57 r14.2 (get (prune kp_crc_Of (prune kp_crc_Of s.env)) 3))).bind fun r15 =>
  (callA E md0 r15.2 30 [r15.1, r14.1]).bind fun r16 =>
  (stA Try.prog 57 r16.2 (get (prune kp_crc_Of (prune kp_crc_Of s.env)) 3) r16.1).bind fun r17 =>
  (pv r17.2 (binA Try.prog .add 3 (get (prune kp_crc_Of (prune kp_crc_Of (prune kp_crc_Of s.env))) 9) (.v (Go.Value.int Go.IntKind.i64 1)))).bind fun r18 =>
  some (.normal, ⟨((9, r18.1) :: (5, r14.1) :: (10, r12.1) :: (prune kp_crc_Of (prune kp_crc_Of (prune kp_crc_Of (prune kp_crc_Of s.env))))), r18.2⟩)) (some (.exit 0, ⟨((10, r12.1) :: (prune kp_crc_Of s.env)), r12.2⟩))
noncomputable def B_crc_Of_0 (E : FnA) (_n _n0 : Nat) (x9 x8 x7 x3 x2 x0 : AV) (y : Bx) : Option (Ex × S) :=
  (pv y (binA Try.prog .lss 3 x9 x8)).bind fun r5 =>
  condA r5.1 ((pv r5.2 (indexAddrA Try.prog 55 x7 x9)).bind fun r6 =>
  (pv r6.2 (loadA Try.prog 54 r6.2 r6.1)).bind fun r7 =>
  (pv r7.2 (loadA Try.prog 57 r7.2 x3)).bind fun r8 =>
  (callA E md0 r8.2 30 [r8.1, r7.1]).bind fun r9 =>
  (stA Try.prog 57 r9.2 x3 r9.1).bind fun r10 =>
  (pv r10.2 (binA Try.prog .add 3 x9 (.v (Go.Value.int Go.IntKind.i64 1)))).bind fun r11 =>
  some (.normal, ⟨[(9, r11.1), (5, r7.1), (10, r5.1), (9, x9), (8, x8), (7, x7), (3, x3), (2, x2), (0, x0)], r11.2⟩)) (some (.exit 0, ⟨[(10, r5.1), (9, x9), (8, x8), (7, x7), (3, x3), (2, x2), (0, x0)], r5.2⟩))
theorem L_crc_Of_0_lit {E : FnA} {n n0 : Nat} {x9 x8 x7 x3 x2 x0 : AV} {y : Bx} {Q : Ex → S → Prop} (h : Ends (B_crc_Of_0 E n n0 x9 x8 x7 x3 x2 x0 y) Q) : Ends (L_crc_Of_0 E n n0 ⟨[(9, x9), (8, x8), (7, x7), (3, x3), (2, x2), (0, x0)], y⟩) Q := by
  rw [show L_crc_Of_0 E n n0 ⟨[(9, x9), (8, x8), (7, x7), (3, x3), (2, x2), (0, x0)], y⟩ = B_crc_Of_0 E n n0 x9 x8 x7 x3 x2 x0 y by kernel_rfl]
  exact h
noncomputable def K_crc_Of_0 (E : FnA) (_n _n0 : Nat) (t : S) : Option (Ex × S) :=
  (pv t.bx (loadA Try.prog 57 t.bx (get t.env 3))).bind fun r21 =>
  (callA E md0 r21.2 31 [r21.1]).bind fun r22 =>
  some (.ret, ⟨((2, r22.1) :: (prune kp_crc_Of t.env)), r22.2⟩)
noncomputable def X_crc_Of_0 (E : FnA) (_n _n0 : Nat) (i : Nat) (t : S) : Option (Ex × S) :=
  if i = 0 then (pv t.bx (loadA Try.prog 57 t.bx (get t.env 3))).bind fun r19 =>
  (callA E md0 r19.2 31 [r19.1]).bind fun r20 =>
  some (.ret, ⟨((2, r20.1) :: (prune kp_crc_Of t.env)), r20.2⟩) else some (.exit i, ⟨t.env, t.bx⟩)
noncomputable def X_crc_Of_0_0 (E : FnA) (_n _n0 : Nat) (x10 x9 x8 x7 x3 x2 x0 : AV) (y : Bx) : Option (Ex × S) :=
  (pv y (loadA Try.prog 57 y x3)).bind fun r23 =>
  (callA E md0 r23.2 31 [r23.1]).bind fun r24 =>
  some (.ret, ⟨[(2, r24.1), (10, x10), (9, x9), (8, x8), (7, x7), (3, x3), (2, x2), (0, x0)], r24.2⟩)
theorem X_crc_Of_0_0_lit {E : FnA} {n n0 : Nat} {x10 x9 x8 x7 x3 x2 x0 : AV} {y : Bx} {Q : Ex → S → Prop} (h : Ends (X_crc_Of_0_0 E n n0 x10 x9 x8 x7 x3 x2 x0 y) Q) : Ends (X_crc_Of_0 E n n0 0 ⟨[(10, x10), (9, x9), (8, x8), (7, x7), (3, x3), (2, x2), (0, x0)], y⟩) Q := by
  rw [show X_crc_Of_0 E n n0 0 ⟨[(10, x10), (9, x9), (8, x8), (7, x7), (3, x3), (2, x2), (0, x0)], y⟩ = X_crc_Of_0_0 E n n0 x10 x9 x8 x7 x3 x2 x0 y by kernel_rfl]
  exact h
noncomputable def F_crc_Of (E : FnA) (n n0 : Nat) (a0 : AV) (bx : Bx) : Option (Ex × S) :=
  (callA E md0 bx 29 []).bind fun r1 =>
  (allocA Try.prog r1.2 57).bind fun r2 =>
  (stA Try.prog 57 r2.2 r2.1 r1.1).bind fun r3 =>
  (pv r3.2 (lenA Try.prog 55 a0)).bind fun r4 =>
  exitA (iter ⟨[(9, (.v (Go.Value.int Go.IntKind.i64 0))), (8, r4.1), (7, a0), (3, r2.1), (2, (.v (Go.Value.int Go.IntKind.u32 0))), (0, a0)], r4.2⟩ (L_crc_Of_0 E n n0) n ⟨[(9, (.v (Go.Value.int Go.IntKind.i64 0))), (8, r4.1), (7, a0), (3, r2.1), (2, (.v (Go.Value.int Go.IntKind.u32 0))), (0, a0)], r4.2⟩) (K_crc_Of_0 E n n0) (X_crc_Of_0 E n n0)
theorem c_crc_Of_eq : Try.f27.body = some c_crc_Of := by kernel_rfl
theorem d_crc_Of : drawsOk Try.prog md0 c_crc_Of = true := by kernel_rfl
theorem F_crc_Of_eq (E : FnA) (n n0 : Nat) (a0 : AV) (bx : Bx) : evK Try.prog md0 E 19 kp_crc_Of n n0 c_crc_Of ⟨[(0, a0)], bx⟩ (fun s => some (.normal, s)) (fun i s => some (.exit i, s)) = F_crc_Of E n n0 a0 bx := by kernel_rfl

theorem E_crc_Of (n : Nat) (a0 : AV) (bx : Bx) : evFn cx0 ext0 (n + 1) 27 [a0] bx = fin Try.prog [.tmp 2] (F_crc_Of (evFn cx0 ext0 n) n bx.length a0 bx) := by
  rw [evFn_eq2 (cx := cx0) (c := c_crc_Of) rfl Try.func27 c_crc_Of_eq (of_decide_eq_true (by kernel_rfl)) d_crc_Of (of_decide_eq_true (by kernel_rfl))]
  exact congrArg (fin Try.prog [.tmp 2]) (F_crc_Of_eq (evFn cx0 ext0 n) n bx.length a0 bx)

/-- scupper/crc.Begin -/
def kp_crc_Begin : Option (List Nat) := some [0]
noncomputable def c_crc_Begin : Code := Try.f29.body.getD .skip
noncomputable def F_crc_Begin (_E : FnA) (_n _n0 : Nat) (bx : Bx) : Option (Ex × S) :=
  (allocA Try.prog bx 57).bind fun r1 =>
  (pv r1.2 (buildA Try.prog 57 [(0, (.v (Go.Value.int Go.IntKind.u32 4294967295)))])).bind fun r2 =>
  (stA Try.prog 57 r2.2 r1.1 r2.1).bind fun r3 =>
  some (.ret, ⟨[(0, r1.1)], r3.2⟩)
theorem c_crc_Begin_eq : Try.f29.body = some c_crc_Begin := by kernel_rfl
theorem d_crc_Begin : drawsOk Try.prog md0 c_crc_Begin = true := by kernel_rfl
theorem F_crc_Begin_eq (E : FnA) (n n0 : Nat) (bx : Bx) : evK Try.prog md0 E 2 kp_crc_Begin n n0 c_crc_Begin ⟨[], bx⟩ (fun s => some (.normal, s)) (fun i s => some (.exit i, s)) = F_crc_Begin E n n0  bx := by kernel_rfl

theorem E_crc_Begin (n : Nat) (bx : Bx) : evFn cx0 ext0 (n + 1) 29 [] bx = fin Try.prog [.cell 0 57] (F_crc_Begin (evFn cx0 ext0 n) n bx.length  bx) := by
  rw [evFn_eq2 (cx := cx0) (c := c_crc_Begin) rfl Try.func29 c_crc_Begin_eq (of_decide_eq_true (by kernel_rfl)) d_crc_Begin (of_decide_eq_true (by kernel_rfl))]
  exact congrArg (fin Try.prog [.cell 0 57]) (F_crc_Begin_eq (evFn cx0 ext0 n) n bx.length  bx)

/-- (scupper/crc.Sum).Add -/
def kp_crc_Sum_Add : Option (List Nat) := some [0, 1, 2, 4, 6, 7, 8, 9, 10]
noncomputable def c_crc_Sum_Add : Code := Try.f30.body.getD .skip
noncomputable def L_crc_Sum_Add_0 (E : FnA) (_n _n0 : Nat) (s : S) : Option (Ex × S) :=
  (pv s.bx (binA Try.prog .lss 3 (get s.env 9) (get s.env 8))).bind fun r15 =>
  condA r15.1 ((pv r15.2 (indexAddrA Try.prog 54 (get (prune kp_crc_Sum_Add s.env) 7) (get (prune kp_crc_Sum_Add s.env) 9))).bind fun r16 =>
  (pv r16.2 (loadA Try.prog 5 r16.2 r16.1)).bind fun r17 =>
  (pv r17.2 (fieldAddrA Try.prog 57 (get (prune kp_crc_Sum_Add (prune kp_crc_Sum_Add s.env)) 2) 0)).bind fun r18 =>
  (pv r18.2 (loadA Try.prog 32 r18.2 r18.1)).bind fun r19 =>
  (convA Try.prog r19.2 5 32 r17.1).bind fun r20 =>
  (pv r20.2 (binA Try.prog .xor 32 r19.1 r20.1)).bind fun r21 =>
  (callA E md0 r21.2 32 [r21.1, (.v (Go.Value.int Go.IntKind.i64 8))]).bind fun r22 =>
  (pv r22.2 (fieldAddrA Try.prog 57 (get (prune kp_crc_Sum_Add (prune kp_crc_Sum_Add s.env)) 2) 0)).bind fun r23 =>
  (stA Try.prog 32 r23.2 r23.1 r22.1).bind fun r24 =>
  (pv r24.2 (binA Try.prog .add 3 (get (prune kp_crc_Sum_Add (prune kp_crc_Sum_Add (prune kp_crc_Sum_Add s.env))) 9) (.v (Go.Value.int Go.IntKind.i64 1)))).bind fun r25 =>
  some (.normal, ⟨((9, r25.1) :: (6, r17.1) :: (10, r15.1) :: (prune kp_crc_Sum_Add (prune kp_crc_Sum_Add (prune kp_crc_Sum_Add (prune kp_crc_Sum_Add s.env))))), r25.2⟩)) (some (.exit 0, ⟨((10, r15.1) :: (prune kp_crc_Sum_Add s.env)), r15.2⟩))
noncomputable def B_crc_Sum_Add_0 (E : FnA) (_n _n0 : Nat) (x9 x8 x7 x4 x2 x0 x1 : AV) (y : Bx) : Option (Ex × S) :=
  (pv y (binA Try.prog .lss 3 x9 x8)).bind fun r4 =>
  condA r4.1 ((pv r4.2 (indexAddrA Try.prog 54 x7 x9)).bind fun r5 =>
  (pv r5.2 (loadA Try.prog 5 r5.2 r5.1)).bind fun r6 =>
  (pv r6.2 (fieldAddrA Try.prog 57 x2 0)).bind fun r7 =>
  (pv r7.2 (loadA Try.prog 32 r7.2 r7.1)).bind fun r8 =>
  (convA Try.prog r8.2 5 32 r6.1).bind fun r9 =>
  (pv r9.2 (binA Try.prog .xor 32 r8.1 r9.1)).bind fun r10 =>
  (callA E md0 r10.2 32 [r10.1, (.v (Go.Value.int Go.IntKind.i64 8))]).bind fun r11 =>
  (pv r11.2 (fieldAddrA Try.prog 57 x2 0)).bind fun r12 =>
  (stA Try.prog 32 r12.2 r12.1 r11.1).bind fun r13 =>
  (pv r13.2 (binA Try.prog .add 3 x9 (.v (Go.Value.int Go.IntKind.i64 1)))).bind fun r14 =>
  some (.normal, ⟨[(9, r14.1), (6, r6.1), (10, r4.1), (9, x9), (8, x8), (7, x7), (4, x4), (2, x2), (0, x0), (1, x1)], r14.2⟩)) (some (.exit 0, ⟨[(10, r4.1), (9, x9), (8, x8), (7, x7), (4, x4), (2, x2), (0, x0), (1, x1)], r4.2⟩))
theorem L_crc_Sum_Add_0_lit {E : FnA} {n n0 : Nat} {x9 x8 x7 x4 x2 x0 x1 : AV} {y : Bx} {Q : Ex → S → Prop} (h : Ends (B_crc_Sum_Add_0 E n n0 x9 x8 x7 x4 x2 x0 x1 y) Q) : Ends (L_crc_Sum_Add_0 E n n0 ⟨[(9, x9), (8, x8), (7, x7), (4, x4), (2, x2), (0, x0), (1, x1)], y⟩) Q := by
  rw [show L_crc_Sum_Add_0 E n n0 ⟨[(9, x9), (8, x8), (7, x7), (4, x4), (2, x2), (0, x0), (1, x1)], y⟩ = B_crc_Sum_Add_0 E n n0 x9 x8 x7 x4 x2 x0 x1 y by kernel_rfl]
  exact h
noncomputable def K_crc_Sum_Add_0 (_E : FnA) (_n _n0 : Nat) (t : S) : Option (Ex × S) :=
  (pv t.bx (fieldAddrA Try.prog 57 (get t.env 2) 1)).bind fun r34 =>
  (pv r34.2 (loadA Try.prog 3 r34.2 r34.1)).bind fun r35 =>
  (pv r35.2 (lenA Try.prog 54 (get t.env 1))).bind fun r36 =>
  (pv r36.2 (binA Try.prog .add 3 r35.1 r36.1)).bind fun r37 =>
  (pv r37.2 (fieldAddrA Try.prog 57 (get t.env 2) 1)).bind fun r38 =>
  (stA Try.prog 3 r38.2 r38.1 r37.1).bind fun r39 =>
  (pv r39.2 (loadA Try.prog 57 r39.2 (get (prune kp_crc_Sum_Add t.env) 2))).bind fun r40 =>
  (stA Try.prog 57 r40.2 (get (prune kp_crc_Sum_Add t.env) 4) r40.1).bind fun r41 =>
  some (.ret, ⟨(prune kp_crc_Sum_Add (prune kp_crc_Sum_Add t.env)), r41.2⟩)
noncomputable def X_crc_Sum_Add_0 (_E : FnA) (_n _n0 : Nat) (i : Nat) (t : S) : Option (Ex × S) :=
  if i = 0 then (pv t.bx (fieldAddrA Try.prog 57 (get t.env 2) 1)).bind fun r26 =>
  (pv r26.2 (loadA Try.prog 3 r26.2 r26.1)).bind fun r27 =>
  (pv r27.2 (lenA Try.prog 54 (get t.env 1))).bind fun r28 =>
  (pv r28.2 (binA Try.prog .add 3 r27.1 r28.1)).bind fun r29 =>
  (pv r29.2 (fieldAddrA Try.prog 57 (get t.env 2) 1)).bind fun r30 =>
  (stA Try.prog 3 r30.2 r30.1 r29.1).bind fun r31 =>
  (pv r31.2 (loadA Try.prog 57 r31.2 (get (prune kp_crc_Sum_Add t.env) 2))).bind fun r32 =>
  (stA Try.prog 57 r32.2 (get (prune kp_crc_Sum_Add t.env) 4) r32.1).bind fun r33 =>
  some (.ret, ⟨(prune kp_crc_Sum_Add (prune kp_crc_Sum_Add t.env)), r33.2⟩) else some (.exit i, ⟨t.env, t.bx⟩)
noncomputable def X_crc_Sum_Add_0_0 (_E : FnA) (_n _n0 : Nat) (x10 x9 x8 x7 x4 x2 x0 x1 : AV) (y : Bx) : Option (Ex × S) :=
  (pv y (fieldAddrA Try.prog 57 x2 1)).bind fun r42 =>
  (pv r42.2 (loadA Try.prog 3 r42.2 r42.1)).bind fun r43 =>
  (pv r43.2 (lenA Try.prog 54 x1)).bind fun r44 =>
  (pv r44.2 (binA Try.prog .add 3 r43.1 r44.1)).bind fun r45 =>
  (pv r45.2 (fieldAddrA Try.prog 57 x2 1)).bind fun r46 =>
  (stA Try.prog 3 r46.2 r46.1 r45.1).bind fun r47 =>
  (pv r47.2 (loadA Try.prog 57 r47.2 x2)).bind fun r48 =>
  (stA Try.prog 57 r48.2 x4 r48.1).bind fun r49 =>
  some (.ret, ⟨[(10, x10), (9, x9), (8, x8), (7, x7), (4, x4), (2, x2), (0, x0), (1, x1)], r49.2⟩)
theorem X_crc_Sum_Add_0_0_lit {E : FnA} {n n0 : Nat} {x10 x9 x8 x7 x4 x2 x0 x1 : AV} {y : Bx} {Q : Ex → S → Prop} (h : Ends (X_crc_Sum_Add_0_0 E n n0 x10 x9 x8 x7 x4 x2 x0 x1 y) Q) : Ends (X_crc_Sum_Add_0 E n n0 0 ⟨[(10, x10), (9, x9), (8, x8), (7, x7), (4, x4), (2, x2), (0, x0), (1, x1)], y⟩) Q := by
  rw [show X_crc_Sum_Add_0 E n n0 0 ⟨[(10, x10), (9, x9), (8, x8), (7, x7), (4, x4), (2, x2), (0, x0), (1, x1)], y⟩ = X_crc_Sum_Add_0_0 E n n0 x10 x9 x8 x7 x4 x2 x0 x1 y by kernel_rfl]
  exact h
noncomputable def F_crc_Sum_Add (E : FnA) (n n0 : Nat) (a0 a1 : AV) (bx : Bx) : Option (Ex × S) :=
  (boxA bx a0).bind fun r1 =>
  (allocA Try.prog r1.2 57).bind fun r2 =>
  (pv r2.2 (lenA Try.prog 54 a1)).bind fun r3 =>
  exitA (iter ⟨[(9, (.v (Go.Value.int Go.IntKind.i64 0))), (8, r3.1), (7, a1), (4, r2.1), (2, r1.1), (0, a0), (1, a1)], r3.2⟩ (L_crc_Sum_Add_0 E n n0) n ⟨[(9, (.v (Go.Value.int Go.IntKind.i64 0))), (8, r3.1), (7, a1), (4, r2.1), (2, r1.1), (0, a0), (1, a1)], r3.2⟩) (K_crc_Sum_Add_0 E n n0) (X_crc_Sum_Add_0 E n n0)
theorem c_crc_Sum_Add_eq : Try.f30.body = some c_crc_Sum_Add := by kernel_rfl
theorem d_crc_Sum_Add : drawsOk Try.prog md0 c_crc_Sum_Add = true := by kernel_rfl
theorem F_crc_Sum_Add_eq (E : FnA) (n n0 : Nat) (a0 a1 : AV) (bx : Bx) : evK Try.prog md0 E 28 kp_crc_Sum_Add n n0 c_crc_Sum_Add ⟨[(0, a0), (1, a1)], bx⟩ (fun s => some (.normal, s)) (fun i s => some (.exit i, s)) = F_crc_Sum_Add E n n0 a0 a1 bx := by kernel_rfl

theorem E_crc_Sum_Add (n : Nat) (a0 a1 : AV) (bx : Bx) : evFn cx0 ext0 (n + 1) 30 [a0, a1] bx = fin Try.prog [.cell 4 57] (F_crc_Sum_Add (evFn cx0 ext0 n) n bx.length a0 a1 bx) := by
  rw [evFn_eq2 (cx := cx0) (c := c_crc_Sum_Add) rfl Try.func30 c_crc_Sum_Add_eq (of_decide_eq_true (by kernel_rfl)) d_crc_Sum_Add (of_decide_eq_true (by kernel_rfl))]
  exact congrArg (fin Try.prog [.cell 4 57]) (F_crc_Sum_Add_eq (evFn cx0 ext0 n) n bx.length a0 a1 bx)

/-- (scupper/crc.Sum).Value -/
def kp_crc_Sum_Value : Option (List Nat) := some [0, 1, 2]
noncomputable def c_crc_Sum_Value : Code := Try.f31.body.getD .skip
noncomputable def F_crc_Sum_Value (_E : FnA) (_n _n0 : Nat) (a0 : AV) (bx : Bx) : Option (Ex × S) :=
  (boxA bx a0).bind fun r1 =>
  (pv r1.2 (fieldAddrA Try.prog 57 r1.1 0)).bind fun r2 =>
  (pv r2.2 (loadA Try.prog 32 r2.2 r2.1)).bind fun r3 =>
  (pv r3.2 (unA .xor r3.1)).bind fun r4 =>
  some (.ret, ⟨[(2, r4.1), (2, (.v (Go.Value.int Go.IntKind.u32 0))), (1, r1.1), (0, a0)], r4.2⟩)
theorem c_crc_Sum_Value_eq : Try.f31.body = some c_crc_Sum_Value := by kernel_rfl
theorem d_crc_Sum_Value : drawsOk Try.prog md0 c_crc_Sum_Value = true := by kernel_rfl
theorem F_crc_Sum_Value_eq (E : FnA) (n n0 : Nat) (a0 : AV) (bx : Bx) : evK Try.prog md0 E 6 kp_crc_Sum_Value n n0 c_crc_Sum_Value ⟨[(0, a0)], bx⟩ (fun s => some (.normal, s)) (fun i s => some (.exit i, s)) = F_crc_Sum_Value E n n0 a0 bx := by kernel_rfl

theorem E_crc_Sum_Value (n : Nat) (a0 : AV) (bx : Bx) : evFn cx0 ext0 (n + 1) 31 [a0] bx = fin Try.prog [.tmp 2] (F_crc_Sum_Value (evFn cx0 ext0 n) n bx.length a0 bx) := by
  rw [evFn_eq2 (cx := cx0) (c := c_crc_Sum_Value) rfl Try.func31 c_crc_Sum_Value_eq (of_decide_eq_true (by kernel_rfl)) d_crc_Sum_Value (of_decide_eq_true (by kernel_rfl))]
  exact congrArg (fin Try.prog [.tmp 2]) (F_crc_Sum_Value_eq (evFn cx0 ext0 n) n bx.length a0 bx)

/-- scupper/crc.stepped -/
def kp_crc_stepped : Option (List Nat) := some [0, 1, 4, 5, 6, 7, 8]
noncomputable def c_crc_stepped : Code := Try.f32.body.getD .skip
noncomputable def L_crc_stepped_0 (_E : FnA) (_n _n0 : Nat) (s : S) : Option (Ex × S) :=
  (pv s.bx (binA Try.prog .lss 3 (get s.env 7) (get s.env 6))).bind fun r8 =>
  condA r8.1 ((pv r8.2 (binA Try.prog .and 32 (get (prune kp_crc_stepped s.env) 0) (.v (Go.Value.int Go.IntKind.u32 1)))).bind fun r9 =>
  (pv r9.2 (unA .neg r9.1)).bind fun r10 =>
  (pv r10.2 (binA Try.prog .shr 32 (get (prune kp_crc_stepped (prune kp_crc_stepped s.env)) 0) (.v (Go.Value.int Go.IntKind.u64 1)))).bind fun r11 =>
  (pv r11.2 (binA Try.prog .and 32 (.v (Go.Value.int Go.IntKind.u32 2197175160)) r10.1)).bind fun r12 =>
  (pv r12.2 (binA Try.prog .xor 32 r11.1 r12.1)).bind fun r13 =>
  (pv r13.2 (binA Try.prog .add 3 (get (prune kp_crc_stepped (prune kp_crc_stepped (prune kp_crc_stepped s.env))) 7) (.v (Go.Value.int Go.IntKind.i64 1)))).bind fun r14 =>
  some (.normal, ⟨((7, r14.1) :: (0, r13.1) :: (5, r10.1) :: (8, r8.1) :: (prune kp_crc_stepped (prune kp_crc_stepped (prune kp_crc_stepped (prune kp_crc_stepped s.env))))), r14.2⟩)) (some (.exit 0, ⟨((8, r8.1) :: (prune kp_crc_stepped s.env)), r8.2⟩))
noncomputable def B_crc_stepped_0 (_E : FnA) (_n _n0 : Nat) (x7 x6 x4 x0 x1 : AV) (y : Bx) : Option (Ex × S) :=
  (pv y (binA Try.prog .lss 3 x7 x6)).bind fun r1 =>
  condA r1.1 ((pv r1.2 (binA Try.prog .and 32 x0 (.v (Go.Value.int Go.IntKind.u32 1)))).bind fun r2 =>
  (pv r2.2 (unA .neg r2.1)).bind fun r3 =>
  (pv r3.2 (binA Try.prog .shr 32 x0 (.v (Go.Value.int Go.IntKind.u64 1)))).bind fun r4 =>
  (pv r4.2 (binA Try.prog .and 32 (.v (Go.Value.int Go.IntKind.u32 2197175160)) r3.1)).bind fun r5 =>
  (pv r5.2 (binA Try.prog .xor 32 r4.1 r5.1)).bind fun r6 =>
  (pv r6.2 (binA Try.prog .add 3 x7 (.v (Go.Value.int Go.IntKind.i64 1)))).bind fun r7 =>
  some (.normal, ⟨[(7, r7.1), (0, r6.1), (5, r3.1), (8, r1.1), (7, x7), (6, x6), (4, x4), (0, x0), (1, x1)], r7.2⟩)) (some (.exit 0, ⟨[(8, r1.1), (7, x7), (6, x6), (4, x4), (0, x0), (1, x1)], r1.2⟩))
theorem L_crc_stepped_0_lit {E : FnA} {n n0 : Nat} {x7 x6 x4 x0 x1 : AV} {y : Bx} {Q : Ex → S → Prop} (h : Ends (B_crc_stepped_0 E n n0 x7 x6 x4 x0 x1 y) Q) : Ends (L_crc_stepped_0 E n n0 ⟨[(7, x7), (6, x6), (4, x4), (0, x0), (1, x1)], y⟩) Q := by
  rw [show L_crc_stepped_0 E n n0 ⟨[(7, x7), (6, x6), (4, x4), (0, x0), (1, x1)], y⟩ = B_crc_stepped_0 E n n0 x7 x6 x4 x0 x1 y by kernel_rfl]
  exact h
noncomputable def K_crc_stepped_0 (_E : FnA) (_n _n0 : Nat) (t : S) : Option (Ex × S) :=
  some (.ret, ⟨((4, (get t.env 0)) :: (prune kp_crc_stepped t.env)), t.bx⟩)
noncomputable def X_crc_stepped_0 (_E : FnA) (_n _n0 : Nat) (i : Nat) (t : S) : Option (Ex × S) :=
  if i = 0 then some (.ret, ⟨((4, (get t.env 0)) :: (prune kp_crc_stepped t.env)), t.bx⟩) else some (.exit i, ⟨t.env, t.bx⟩)
noncomputable def X_crc_stepped_0_0 (_E : FnA) (_n _n0 : Nat) (x8 x7 x6 x4 x0 x1 : AV) (y : Bx) : Option (Ex × S) :=
  some (.ret, ⟨[(4, x0), (8, x8), (7, x7), (6, x6), (4, x4), (0, x0), (1, x1)], y⟩)
theorem X_crc_stepped_0_0_lit {E : FnA} {n n0 : Nat} {x8 x7 x6 x4 x0 x1 : AV} {y : Bx} {Q : Ex → S → Prop} (h : Ends (X_crc_stepped_0_0 E n n0 x8 x7 x6 x4 x0 x1 y) Q) : Ends (X_crc_stepped_0 E n n0 0 ⟨[(8, x8), (7, x7), (6, x6), (4, x4), (0, x0), (1, x1)], y⟩) Q := by
  rw [show X_crc_stepped_0 E n n0 0 ⟨[(8, x8), (7, x7), (6, x6), (4, x4), (0, x0), (1, x1)], y⟩ = X_crc_stepped_0_0 E n n0 x8 x7 x6 x4 x0 x1 y by kernel_rfl]
  exact h
noncomputable def F_crc_stepped (E : FnA) (n n0 : Nat) (a0 a1 : AV) (bx : Bx) : Option (Ex × S) :=
  exitA (iter ⟨[(7, (.v (Go.Value.int Go.IntKind.i64 0))), (6, a1), (4, (.v (Go.Value.int Go.IntKind.u32 0))), (0, a0), (1, a1)], bx⟩ (L_crc_stepped_0 E n n0) n ⟨[(7, (.v (Go.Value.int Go.IntKind.i64 0))), (6, a1), (4, (.v (Go.Value.int Go.IntKind.u32 0))), (0, a0), (1, a1)], bx⟩) (K_crc_stepped_0 E n n0) (X_crc_stepped_0 E n n0)
theorem c_crc_stepped_eq : Try.f32.body = some c_crc_stepped := by kernel_rfl
theorem d_crc_stepped : drawsOk Try.prog md0 c_crc_stepped = true := by kernel_rfl
theorem F_crc_stepped_eq (E : FnA) (n n0 : Nat) (a0 a1 : AV) (bx : Bx) : evK Try.prog md0 E 19 kp_crc_stepped n n0 c_crc_stepped ⟨[(0, a0), (1, a1)], bx⟩ (fun s => some (.normal, s)) (fun i s => some (.exit i, s)) = F_crc_stepped E n n0 a0 a1 bx := by kernel_rfl

theorem E_crc_stepped (n : Nat) (a0 a1 : AV) (bx : Bx) : evFn cx0 ext0 (n + 1) 32 [a0, a1] bx = fin Try.prog [.tmp 4] (F_crc_stepped (evFn cx0 ext0 n) n bx.length a0 a1 bx) := by
  rw [evFn_eq2 (cx := cx0) (c := c_crc_stepped) rfl Try.func32 c_crc_stepped_eq (of_decide_eq_true (by kernel_rfl)) d_crc_stepped (of_decide_eq_true (by kernel_rfl))]
  exact congrArg (fin Try.prog [.tmp 4]) (F_crc_stepped_eq (evFn cx0 ext0 n) n bx.length a0 a1 bx)

end Go.Sy
