/-
  What the functions under this seat's laws read as, in the reader's words; no conditions.
-/
import Derived.Test.YtijmfjpcjceejaaSyStep
import Derived.Test.YtijmfjpcjceejaaProg
import Derived.KernelRfl
import Derived.Test.YtijmfjpcjceejaaPfDsk5
namespace Go.Sy
open Go.Proofs
def kpT : FuncId → Option (List Nat)
  | 6 => some [0, 1, 2, 3, 4, 5, 6, 12]
  | 3 => some [1000000, 0, 1, 2, 6, 7, 9, 10, 11, 12, 14, 15, 16, 17, 18, 19, 20, 22, 34, 53, 55, 75, 108, 122, 147]
  | 9 => some [0, 1, 4, 6]
  | _ => none
def md_l04_works : FuncId → Md
  | 7 => .objK
  | 8 => .objK
  | 12 => .objK
  | 11 => .objK
  | _ => .frozen
def md_l04_DiskFlushed : FuncId → Md
  | 1000001 => .objK
  | 7 => .objK
  | 8 => .objK
  | 10 => .objK
  | 11 => .objK
  | 12 => .objK
  | 13 => .objK
  | _ => .frozen
def mdT : FuncId → FuncId → Md
  | 6 => md_l04_works
  | 3 => md_l04_DiskFlushed
  | _ => md0
noncomputable def cx0 : Cx := { P := Try.prog, md := mdT, kp := kpT }
noncomputable def ext0 : FnA := extD
theorem ext0_ok (f : FuncId) (args : List AV) (bx : Bx) (r : AV) (bx' : Bx) (h : ext0 f args bx = some (r, bx')) : Sound cx0.P f args bx r bx' := extD_ok f args bx r bx' h
/-- scupper/scupperlaw04.works -/
def kp_l04_works : Option (List Nat) := some [0, 1, 2, 3, 4, 5, 6, 12]
noncomputable def c_l04_works : Code := Try.f6.body.getD .skip
noncomputable def F_l04_works (E : FnA) (_n _n0 : Nat) (bx : Bx) : Option (Ex × S) :=
  (callA E md_l04_works bx 7 [(.v (Go.Value.int Go.IntKind.i64 2)), (.v (Go.Value.pointer none))]).bind fun r1 =>
  (pv r1.2 (tupA r1.1 0)).bind fun r2 =>
  (pv r2.2 (tupA r1.1 1)).bind fun r3 =>
  (pv r3.2 (binA Try.prog .eql 25 r2.1 (.v (Go.Value.pointer none)))).bind fun r4 =>
  condA r4.1 (some (.ret, ⟨[(0, (.v (Go.Value.bool false))), (12, r4.1), (2, r3.1), (1, r2.1), (0, (.v (Go.Value.bool false)))], r4.2⟩)) ((pv r4.2 (buildA Try.prog 32 [(0, (.v (Go.Value.int Go.IntKind.u8 1)))])).bind fun r5 =>
  (callA E md_l04_works r5.2 8 [r2.1, (.v (Go.Value.int Go.IntKind.i64 0)), r5.1]).bind fun r6 =>
  (pv r6.2 (buildA Try.prog 32 [(0, (.v (Go.Value.int Go.IntKind.u8 2)))])).bind fun r7 =>
  (callA E md_l04_works r7.2 8 [r2.1, (.v (Go.Value.int Go.IntKind.i64 0)), r7.1]).bind fun r8 =>
  (buildSliceA Try.prog r8.2 23 1 [(0, (.v (Go.Value.int Go.IntKind.i64 1)))]).bind fun r9 =>
  (callA E md_l04_works r9.2 12 [r2.1, r9.1]).bind fun r10 =>
  (callA E md_l04_works r10.2 11 [r2.1, (.v (Go.Value.int Go.IntKind.i64 0))]).bind fun r11 =>
  (pv r11.2 (tupA r11.1 0)).bind fun r12 =>
  (pv r12.2 (tupA r11.1 1)).bind fun r13 =>
  (allocA Try.prog r13.2 32).bind fun r14 =>
  (stA Try.prog 32 r14.2 r14.1 r12.1).bind fun r15 =>
  (pv r15.2 (binA Try.prog .eql 26 r3.1 (.v (Go.Value.int Go.IntKind.i64 0)))).bind fun r16 =>
  (gsel true r16.2 (some (r6.1, r16.2)) r16.1).bind fun r17 =>
  (gsel true r17.2 (pv r17.2 (binA Try.prog .eql 26 r17.1 (.v (Go.Value.int Go.IntKind.i64 0)))) r16.1).bind fun r18 =>
  (pv r18.2 (pickA r16.1 r18.1 (.v (Go.Value.bool false)))).bind fun r19 =>
  (gsel true r19.2 (some (r8.1, r19.2)) r19.1).bind fun r20 =>
  (gsel true r20.2 (pv r20.2 (binA Try.prog .eql 26 r20.1 (.v (Go.Value.int Go.IntKind.i64 0)))) r19.1).bind fun r21 =>
  (pv r21.2 (pickA r19.1 r21.1 (.v (Go.Value.bool false)))).bind fun r22 =>
  (gsel true r22.2 (pv r22.2 (loadA Try.prog 32 r22.2 r14.1)) r22.1).bind fun r23 =>
  (gsel true r23.2 (pv r23.2 (buildA Try.prog 32 [(0, (.v (Go.Value.int Go.IntKind.u8 1)))])) r22.1).bind fun r24 =>
  (gsel true r24.2 (pv r24.2 (binA Try.prog .eql 32 r23.1 r24.1)) r22.1).bind fun r25 =>
  (pv r25.2 (pickA r22.1 r25.1 (.v (Go.Value.bool false)))).bind fun r26 =>
  (gsel true r26.2 (some (r13.1, r26.2)) r26.1).bind fun r27 =>
  (gsel true r27.2 (pv r27.2 (binA Try.prog .eql 26 r27.1 (.v (Go.Value.int Go.IntKind.i64 0)))) r26.1).bind fun r28 =>
  (pv r28.2 (pickA r26.1 r28.1 (.v (Go.Value.bool false)))).bind fun r29 =>
  some (.ret, ⟨[(0, r29.1), (6, r13.1), (5, r14.1), (4, r8.1), (3, r6.1), (12, r4.1), (2, r3.1), (1, r2.1), (0, (.v (Go.Value.bool false)))], r29.2⟩))
theorem c_l04_works_eq : Try.f6.body = some c_l04_works := by kernel_rfl
theorem d_l04_works : drawsOk Try.prog md_l04_works c_l04_works = true := by kernel_rfl
theorem F_l04_works_eq (E : FnA) (n n0 : Nat) (bx : Bx) : evK Try.prog md_l04_works E 46 kp_l04_works n n0 c_l04_works ⟨[], bx⟩ (fun s => some (.normal, s)) (fun i s => some (.exit i, s)) = F_l04_works E n n0  bx := by kernel_rfl

theorem E_l04_works (n : Nat) (bx : Bx) : evFn cx0 ext0 (n + 1) 6 [] bx = fin Try.prog [.tmp 0] (F_l04_works (evFn cx0 ext0 n) n bx.length  bx) := by
  rw [evFn_eq2 (cx := cx0) (c := c_l04_works) rfl Try.func6 c_l04_works_eq (of_decide_eq_true (by kernel_rfl)) d_l04_works (of_decide_eq_true (by kernel_rfl))]
  exact congrArg (fin Try.prog [.tmp 0]) (F_l04_works_eq (evFn cx0 ext0 n) n bx.length  bx)

/-- scupper/scupperlaw04.DiskFlushed -/
def kp_l04_DiskFlushed : Option (List Nat) := some [1000000, 0, 1, 2, 6, 7, 9, 10, 11, 12, 14, 15, 16, 17, 18, 19, 20, 22, 34, 53, 55, 75, 108, 122, 147]
noncomputable def c_l04_DiskFlushed : Code := Try.f3.body.getD .skip
noncomputable def L_l04_DiskFlushed_4 (_E : FnA) (_n _n0 : Nat) (s : S) : Option (Ex × S) :=
  (pv s.bx (indexAddrA Try.prog 36 (get s.env 10) (get s.env 16))).bind fun r128 =>
  (pv r128.2 (loadA Try.prog 35 r128.2 r128.1)).bind fun r129 =>
  (pv r129.2 (lenA Try.prog 35 r129.1)).bind fun r130 =>
  (pv r130.2 (binA Try.prog .lss 3 (get s.env 20) r130.1)).bind fun r131 =>
  condA r131.1 ((gsel false r131.2 (some ((get (prune kp_l04_DiskFlushed s.env) 16), r131.2)) (get (prune kp_l04_DiskFlushed s.env) 19)).bind fun r132 =>
  (gsel false r132.2 (pv r132.2 (indexAddrA Try.prog 36 (get (prune kp_l04_DiskFlushed s.env) 10) r132.1)) (get (prune kp_l04_DiskFlushed s.env) 19)).bind fun r133 =>
  (gsel false r133.2 (pv r133.2 (loadA Try.prog 35 r133.2 r133.1)) (get (prune kp_l04_DiskFlushed s.env) 19)).bind fun r134 =>
  (gsel false r134.2 (some ((get (prune kp_l04_DiskFlushed s.env) 20), r134.2)) (get (prune kp_l04_DiskFlushed s.env) 19)).bind fun r135 =>
  (gsel false r135.2 (pv r135.2 (indexAddrA Try.prog 35 r134.1 r135.1)) (get (prune kp_l04_DiskFlushed s.env) 19)).bind fun r136 =>
  (gsel false r136.2 (pv r136.2 (loadA Try.prog 32 r136.2 r136.1)) (get (prune kp_l04_DiskFlushed s.env) 19)).bind fun r137 =>
  (gsel false r137.2 (pv r137.2 (loadA Try.prog 32 r137.2 (get (prune kp_l04_DiskFlushed s.env) 17))) (get (prune kp_l04_DiskFlushed s.env) 19)).bind fun r138 =>
  (gsel false r138.2 (pv r138.2 (binA Try.prog .eql 32 r137.1 r138.1)) (get (prune kp_l04_DiskFlushed s.env) 19)).bind fun r139 =>
  (pv r139.2 (pickA (get (prune kp_l04_DiskFlushed s.env) 19) (.v (Go.Value.bool true)) r139.1)).bind fun r140 =>
  (pv r140.2 (binA Try.prog .add 3 (get (prune kp_l04_DiskFlushed (prune kp_l04_DiskFlushed s.env)) 20) (.v (Go.Value.int Go.IntKind.i64 1)))).bind fun r141 =>
  some (.normal, ⟨((20, r141.1) :: (19, r140.1) :: (122, r131.1) :: (prune kp_l04_DiskFlushed (prune kp_l04_DiskFlushed (prune kp_l04_DiskFlushed s.env)))), r141.2⟩)) (some (.exit 8, ⟨((122, r131.1) :: (prune kp_l04_DiskFlushed s.env)), r131.2⟩))
noncomputable def B_l04_DiskFlushed_4 (_E : FnA) (_n _n0 : Nat) (x20 x19 x18 x17 x108 x16 x75 x14 x55 x11 x53 x10 x34 x9 x7 x22 x6 x0 x1 x2 : AV) (y : Bx) : Option (Ex × S) :=
  (pv y (indexAddrA Try.prog 36 x10 x16)).bind fun r114 =>
  (pv r114.2 (loadA Try.prog 35 r114.2 r114.1)).bind fun r115 =>
  (pv r115.2 (lenA Try.prog 35 r115.1)).bind fun r116 =>
  (pv r116.2 (binA Try.prog .lss 3 x20 r116.1)).bind fun r117 =>
  condA r117.1 ((gsel false r117.2 (some (x16, r117.2)) x19).bind fun r118 =>
  (gsel false r118.2 (pv r118.2 (indexAddrA Try.prog 36 x10 r118.1)) x19).bind fun r119 =>
  (gsel false r119.2 (pv r119.2 (loadA Try.prog 35 r119.2 r119.1)) x19).bind fun r120 =>
  (gsel false r120.2 (some (x20, r120.2)) x19).bind fun r121 =>
  (gsel false r121.2 (pv r121.2 (indexAddrA Try.prog 35 r120.1 r121.1)) x19).bind fun r122 =>
  (gsel false r122.2 (pv r122.2 (loadA Try.prog 32 r122.2 r122.1)) x19).bind fun r123 =>
  (gsel false r123.2 (pv r123.2 (loadA Try.prog 32 r123.2 x17)) x19).bind fun r124 =>
  (gsel false r124.2 (pv r124.2 (binA Try.prog .eql 32 r123.1 r124.1)) x19).bind fun r125 =>
  (pv r125.2 (pickA x19 (.v (Go.Value.bool true)) r125.1)).bind fun r126 =>
  (pv r126.2 (binA Try.prog .add 3 x20 (.v (Go.Value.int Go.IntKind.i64 1)))).bind fun r127 =>
  some (.normal, ⟨[(20, r127.1), (19, r126.1), (122, r117.1), (20, x20), (19, x19), (18, x18), (17, x17), (108, x108), (16, x16), (75, x75), (14, x14), (55, x55), (11, x11), (53, x53), (10, x10), (34, x34), (9, x9), (7, x7), (22, x22), (6, x6), (0, x0), (1, x1), (2, x2)], r127.2⟩)) (some (.exit 8, ⟨[(122, r117.1), (20, x20), (19, x19), (18, x18), (17, x17), (108, x108), (16, x16), (75, x75), (14, x14), (55, x55), (11, x11), (53, x53), (10, x10), (34, x34), (9, x9), (7, x7), (22, x22), (6, x6), (0, x0), (1, x1), (2, x2)], r117.2⟩))
theorem L_l04_DiskFlushed_4_lit {E : FnA} {n n0 : Nat} {x20 x19 x18 x17 x108 x16 x75 x14 x55 x11 x53 x10 x34 x9 x7 x22 x6 x0 x1 x2 : AV} {y : Bx} {Q : Ex → S → Prop} (h : Ends (B_l04_DiskFlushed_4 E n n0 x20 x19 x18 x17 x108 x16 x75 x14 x55 x11 x53 x10 x34 x9 x7 x22 x6 x0 x1 x2 y) Q) : Ends (L_l04_DiskFlushed_4 E n n0 ⟨[(20, x20), (19, x19), (18, x18), (17, x17), (108, x108), (16, x16), (75, x75), (14, x14), (55, x55), (11, x11), (53, x53), (10, x10), (34, x34), (9, x9), (7, x7), (22, x22), (6, x6), (0, x0), (1, x1), (2, x2)], y⟩) Q := by
  rw [show L_l04_DiskFlushed_4 E n n0 ⟨[(20, x20), (19, x19), (18, x18), (17, x17), (108, x108), (16, x16), (75, x75), (14, x14), (55, x55), (11, x11), (53, x53), (10, x10), (34, x34), (9, x9), (7, x7), (22, x22), (6, x6), (0, x0), (1, x1), (2, x2)], y⟩ = B_l04_DiskFlushed_4 E n n0 x20 x19 x18 x17 x108 x16 x75 x14 x55 x11 x53 x10 x34 x9 x7 x22 x6 x0 x1 x2 y by kernel_rfl]
  exact h
noncomputable def K_l04_DiskFlushed_4 (E : FnA) (_n _n0 : Nat) (t : S) : Option (Ex × S) :=
  (pv t.bx (binA Try.prog .neq 26 (get t.env 18) (.v (Go.Value.int Go.IntKind.i64 0)))).bind fun r153 =>
  (gsel false r153.2 (some ((get t.env 19), r153.2)) r153.1).bind fun r154 =>
  (gsel false r154.2 (pv r154.2 (unA .not r154.1)) r153.1).bind fun r155 =>
  (pv r155.2 (pickA r153.1 (.v (Go.Value.bool true)) r155.1)).bind fun r156 =>
  (gsel false r156.2 (some ((get t.env 7), r156.2)) r156.1).bind fun r157 =>
  (gsel false r157.2 (some ((get t.env 16), r157.2)) r156.1).bind fun r158 =>
  (gsel false r158.2 (callA E md_l04_DiskFlushed r158.2 13 [r157.1, r158.1]) r156.1).bind fun r159 =>
  (gsel false r159.2 (pv r159.2 (binA Try.prog .neq 3 r159.1 (.v (Go.Value.int Go.IntKind.i64 0)))) r156.1).bind fun r160 =>
  (pv r160.2 (pickA r156.1 (.v (Go.Value.bool true)) r160.1)).bind fun r161 =>
  condA r161.1 (some (.ret, ⟨((6, (.v (Go.Value.bool false))) :: (147, r161.1) :: (prune kp_l04_DiskFlushed (prune kp_l04_DiskFlushed t.env))), r161.2⟩)) ((pv r161.2 (binA Try.prog .add 3 (get (prune kp_l04_DiskFlushed t.env) 16) (.v (Go.Value.int Go.IntKind.i64 1)))).bind fun r162 =>
  some (.normal, ⟨((16, r162.1) :: (147, r161.1) :: (prune kp_l04_DiskFlushed (prune kp_l04_DiskFlushed t.env))), r162.2⟩))
noncomputable def X_l04_DiskFlushed_4 (E : FnA) (_n _n0 : Nat) (i : Nat) (t : S) : Option (Ex × S) :=
  if i = 8 then (pv t.bx (binA Try.prog .neq 26 (get t.env 18) (.v (Go.Value.int Go.IntKind.i64 0)))).bind fun r142 =>
  (gsel false r142.2 (some ((get t.env 19), r142.2)) r142.1).bind fun r143 =>
  (gsel false r143.2 (pv r143.2 (unA .not r143.1)) r142.1).bind fun r144 =>
  (pv r144.2 (pickA r142.1 (.v (Go.Value.bool true)) r144.1)).bind fun r145 =>
  (gsel false r145.2 (some ((get t.env 7), r145.2)) r145.1).bind fun r146 =>
  (gsel false r146.2 (some ((get t.env 16), r146.2)) r145.1).bind fun r147 =>
  (gsel false r147.2 (callA E md_l04_DiskFlushed r147.2 13 [r146.1, r147.1]) r145.1).bind fun r148 =>
  (gsel false r148.2 (pv r148.2 (binA Try.prog .neq 3 r148.1 (.v (Go.Value.int Go.IntKind.i64 0)))) r145.1).bind fun r149 =>
  (pv r149.2 (pickA r145.1 (.v (Go.Value.bool true)) r149.1)).bind fun r150 =>
  condA r150.1 (some (.ret, ⟨((6, (.v (Go.Value.bool false))) :: (147, r150.1) :: (prune kp_l04_DiskFlushed (prune kp_l04_DiskFlushed t.env))), r150.2⟩)) ((pv r150.2 (binA Try.prog .add 3 (get (prune kp_l04_DiskFlushed t.env) 16) (.v (Go.Value.int Go.IntKind.i64 1)))).bind fun r151 =>
  some (.normal, ⟨((16, r151.1) :: (147, r150.1) :: (prune kp_l04_DiskFlushed (prune kp_l04_DiskFlushed t.env))), r151.2⟩)) else if i = 7 then (pv t.bx (binA Try.prog .add 3 (get t.env 16) (.v (Go.Value.int Go.IntKind.i64 1)))).bind fun r152 =>
  some (.normal, ⟨((16, r152.1) :: (prune kp_l04_DiskFlushed t.env)), r152.2⟩) else some (.exit i, ⟨t.env, t.bx⟩)
noncomputable def X_l04_DiskFlushed_4_0 (E : FnA) (_n _n0 : Nat) (x122 x20 x19 x18 x17 x108 x16 x75 x14 x55 x11 x53 x10 x34 x9 x7 x22 x6 x0 x1 x2 : AV) (y : Bx) : Option (Ex × S) :=
  (pv y (binA Try.prog .neq 26 x18 (.v (Go.Value.int Go.IntKind.i64 0)))).bind fun r163 =>
  (gsel false r163.2 (some (x19, r163.2)) r163.1).bind fun r164 =>
  (gsel false r164.2 (pv r164.2 (unA .not r164.1)) r163.1).bind fun r165 =>
  (pv r165.2 (pickA r163.1 (.v (Go.Value.bool true)) r165.1)).bind fun r166 =>
  (gsel false r166.2 (some (x7, r166.2)) r166.1).bind fun r167 =>
  (gsel false r167.2 (some (x16, r167.2)) r166.1).bind fun r168 =>
  (gsel false r168.2 (callA E md_l04_DiskFlushed r168.2 13 [r167.1, r168.1]) r166.1).bind fun r169 =>
  (gsel false r169.2 (pv r169.2 (binA Try.prog .neq 3 r169.1 (.v (Go.Value.int Go.IntKind.i64 0)))) r166.1).bind fun r170 =>
  (pv r170.2 (pickA r166.1 (.v (Go.Value.bool true)) r170.1)).bind fun r171 =>
  condA r171.1 (some (.ret, ⟨[(6, (.v (Go.Value.bool false))), (147, r171.1), (122, x122), (20, x20), (19, x19), (18, x18), (17, x17), (108, x108), (16, x16), (75, x75), (14, x14), (55, x55), (11, x11), (53, x53), (10, x10), (34, x34), (9, x9), (7, x7), (22, x22), (6, x6), (0, x0), (1, x1), (2, x2)], r171.2⟩)) ((pv r171.2 (binA Try.prog .add 3 x16 (.v (Go.Value.int Go.IntKind.i64 1)))).bind fun r172 =>
  some (.normal, ⟨[(16, r172.1), (147, r171.1), (122, x122), (20, x20), (19, x19), (18, x18), (17, x17), (108, x108), (16, x16), (75, x75), (14, x14), (55, x55), (11, x11), (53, x53), (10, x10), (34, x34), (9, x9), (7, x7), (22, x22), (6, x6), (0, x0), (1, x1), (2, x2)], r172.2⟩))
theorem X_l04_DiskFlushed_4_0_lit {E : FnA} {n n0 : Nat} {x122 x20 x19 x18 x17 x108 x16 x75 x14 x55 x11 x53 x10 x34 x9 x7 x22 x6 x0 x1 x2 : AV} {y : Bx} {Q : Ex → S → Prop} (h : Ends (X_l04_DiskFlushed_4_0 E n n0 x122 x20 x19 x18 x17 x108 x16 x75 x14 x55 x11 x53 x10 x34 x9 x7 x22 x6 x0 x1 x2 y) Q) : Ends (X_l04_DiskFlushed_4 E n n0 8 ⟨[(122, x122), (20, x20), (19, x19), (18, x18), (17, x17), (108, x108), (16, x16), (75, x75), (14, x14), (55, x55), (11, x11), (53, x53), (10, x10), (34, x34), (9, x9), (7, x7), (22, x22), (6, x6), (0, x0), (1, x1), (2, x2)], y⟩) Q := by
  rw [show X_l04_DiskFlushed_4 E n n0 8 ⟨[(122, x122), (20, x20), (19, x19), (18, x18), (17, x17), (108, x108), (16, x16), (75, x75), (14, x14), (55, x55), (11, x11), (53, x53), (10, x10), (34, x34), (9, x9), (7, x7), (22, x22), (6, x6), (0, x0), (1, x1), (2, x2)], y⟩ = X_l04_DiskFlushed_4_0 E n n0 x122 x20 x19 x18 x17 x108 x16 x75 x14 x55 x11 x53 x10 x34 x9 x7 x22 x6 x0 x1 x2 y by kernel_rfl]
  exact h
noncomputable def L_l04_DiskFlushed_3 (E : FnA) (n n0 : Nat) (s : S) : Option (Ex × S) :=
  (pv s.bx (binA Try.prog .lss 3 (get s.env 16) (.v (Go.Value.int Go.IntKind.i64 8)))).bind fun r173 =>
  condA r173.1 ((callA E md_l04_DiskFlushed r173.2 11 [(get (prune kp_l04_DiskFlushed s.env) 7), (get (prune kp_l04_DiskFlushed s.env) 16)]).bind fun r174 =>
  (pv r174.2 (tupA r174.1 0)).bind fun r175 =>
  (pv r175.2 (tupA r174.1 1)).bind fun r176 =>
  (allocA Try.prog r176.2 32).bind fun r177 =>
  (stA Try.prog 32 r177.2 r177.1 r175.1).bind fun r178 =>
  exitA (iter (headK ⟨((20, (.v (Go.Value.int Go.IntKind.i64 0))) :: (19, (.v (Go.Value.bool false))) :: (18, r176.1) :: (17, r177.1) :: (108, r173.1) :: (prune kp_l04_DiskFlushed (prune kp_l04_DiskFlushed (prune kp_l04_DiskFlushed (prune kp_l04_DiskFlushed s.env))))), r178.2⟩) (L_l04_DiskFlushed_4 E n n0) n ⟨((20, (.v (Go.Value.int Go.IntKind.i64 0))) :: (19, (.v (Go.Value.bool false))) :: (18, r176.1) :: (17, r177.1) :: (108, r173.1) :: (prune kp_l04_DiskFlushed (prune kp_l04_DiskFlushed (prune kp_l04_DiskFlushed (prune kp_l04_DiskFlushed s.env))))), r178.2⟩) (K_l04_DiskFlushed_4 E n n0) (X_l04_DiskFlushed_4 E n n0)) (some (.exit 6, ⟨((108, r173.1) :: (prune kp_l04_DiskFlushed s.env)), r173.2⟩))
noncomputable def B_l04_DiskFlushed_3 (E : FnA) (n n0 : Nat) (x16 x75 x14 x55 x11 x53 x10 x34 x9 x7 x22 x6 x0 x1 x2 : AV) (y : Bx) : Option (Ex × S) :=
  (pv y (binA Try.prog .lss 3 x16 (.v (Go.Value.int Go.IntKind.i64 8)))).bind fun r108 =>
  condA r108.1 ((callA E md_l04_DiskFlushed r108.2 11 [x7, x16]).bind fun r109 =>
  (pv r109.2 (tupA r109.1 0)).bind fun r110 =>
  (pv r110.2 (tupA r109.1 1)).bind fun r111 =>
  (allocA Try.prog r111.2 32).bind fun r112 =>
  (stA Try.prog 32 r112.2 r112.1 r110.1).bind fun r113 =>
  exitA (iter (headK ⟨[(20, (.v (Go.Value.int Go.IntKind.i64 0))), (19, (.v (Go.Value.bool false))), (18, r111.1), (17, r112.1), (108, r108.1), (16, x16), (75, x75), (14, x14), (55, x55), (11, x11), (53, x53), (10, x10), (34, x34), (9, x9), (7, x7), (22, x22), (6, x6), (0, x0), (1, x1), (2, x2)], r113.2⟩) (L_l04_DiskFlushed_4 E n n0) n ⟨[(20, (.v (Go.Value.int Go.IntKind.i64 0))), (19, (.v (Go.Value.bool false))), (18, r111.1), (17, r112.1), (108, r108.1), (16, x16), (75, x75), (14, x14), (55, x55), (11, x11), (53, x53), (10, x10), (34, x34), (9, x9), (7, x7), (22, x22), (6, x6), (0, x0), (1, x1), (2, x2)], r113.2⟩) (K_l04_DiskFlushed_4 E n n0) (X_l04_DiskFlushed_4 E n n0)) (some (.exit 6, ⟨[(108, r108.1), (16, x16), (75, x75), (14, x14), (55, x55), (11, x11), (53, x53), (10, x10), (34, x34), (9, x9), (7, x7), (22, x22), (6, x6), (0, x0), (1, x1), (2, x2)], r108.2⟩))
theorem L_l04_DiskFlushed_3_lit {E : FnA} {n n0 : Nat} {x16 x75 x14 x55 x11 x53 x10 x34 x9 x7 x22 x6 x0 x1 x2 : AV} {y : Bx} {Q : Ex → S → Prop} (h : Ends (B_l04_DiskFlushed_3 E n n0 x16 x75 x14 x55 x11 x53 x10 x34 x9 x7 x22 x6 x0 x1 x2 y) Q) : Ends (L_l04_DiskFlushed_3 E n n0 ⟨[(16, x16), (75, x75), (14, x14), (55, x55), (11, x11), (53, x53), (10, x10), (34, x34), (9, x9), (7, x7), (22, x22), (6, x6), (0, x0), (1, x1), (2, x2)], y⟩) Q := by
  rw [show L_l04_DiskFlushed_3 E n n0 ⟨[(16, x16), (75, x75), (14, x14), (55, x55), (11, x11), (53, x53), (10, x10), (34, x34), (9, x9), (7, x7), (22, x22), (6, x6), (0, x0), (1, x1), (2, x2)], y⟩ = B_l04_DiskFlushed_3 E n n0 x16 x75 x14 x55 x11 x53 x10 x34 x9 x7 x22 x6 x0 x1 x2 y by kernel_rfl]
  exact h
noncomputable def K_l04_DiskFlushed_3 (_E : FnA) (_n _n0 : Nat) (t : S) : Option (Ex × S) :=
  some (.ret, ⟨((6, (.v (Go.Value.bool true))) :: (prune kp_l04_DiskFlushed t.env)), t.bx⟩)
noncomputable def X_l04_DiskFlushed_3 (_E : FnA) (_n _n0 : Nat) (i : Nat) (t : S) : Option (Ex × S) :=
  if i = 6 then some (.ret, ⟨((6, (.v (Go.Value.bool true))) :: (prune kp_l04_DiskFlushed t.env)), t.bx⟩) else some (.exit i, ⟨t.env, t.bx⟩)
noncomputable def X_l04_DiskFlushed_3_0 (_E : FnA) (_n _n0 : Nat) (x108 x16 x75 x14 x55 x11 x53 x10 x34 x9 x7 x22 x6 x0 x1 x2 : AV) (y : Bx) : Option (Ex × S) :=
  some (.ret, ⟨[(6, (.v (Go.Value.bool true))), (108, x108), (16, x16), (75, x75), (14, x14), (55, x55), (11, x11), (53, x53), (10, x10), (34, x34), (9, x9), (7, x7), (22, x22), (6, x6), (0, x0), (1, x1), (2, x2)], y⟩)
theorem X_l04_DiskFlushed_3_0_lit {E : FnA} {n n0 : Nat} {x108 x16 x75 x14 x55 x11 x53 x10 x34 x9 x7 x22 x6 x0 x1 x2 : AV} {y : Bx} {Q : Ex → S → Prop} (h : Ends (X_l04_DiskFlushed_3_0 E n n0 x108 x16 x75 x14 x55 x11 x53 x10 x34 x9 x7 x22 x6 x0 x1 x2 y) Q) : Ends (X_l04_DiskFlushed_3 E n n0 6 ⟨[(108, x108), (16, x16), (75, x75), (14, x14), (55, x55), (11, x11), (53, x53), (10, x10), (34, x34), (9, x9), (7, x7), (22, x22), (6, x6), (0, x0), (1, x1), (2, x2)], y⟩) Q := by
  rw [show X_l04_DiskFlushed_3 E n n0 6 ⟨[(108, x108), (16, x16), (75, x75), (14, x14), (55, x55), (11, x11), (53, x53), (10, x10), (34, x34), (9, x9), (7, x7), (22, x22), (6, x6), (0, x0), (1, x1), (2, x2)], y⟩ = X_l04_DiskFlushed_3_0 E n n0 x108 x16 x75 x14 x55 x11 x53 x10 x34 x9 x7 x22 x6 x0 x1 x2 y by kernel_rfl]
  exact h
noncomputable def L_l04_DiskFlushed_2 (E : FnA) (_n n0 : Nat) (s : S) : Option (Ex × S) :=
  (pv s.bx (lenA Try.prog 22 (get s.env 1))).bind fun r84 =>
  (pv r84.2 (binA Try.prog .lss 3 (get s.env 14) r84.1)).bind fun r85 =>
  (gsel true r85.2 (some ((get s.env 14), r85.2)) r85.1).bind fun r86 =>
  (gsel true r86.2 (pv r86.2 (binA Try.prog .lss 3 r86.1 (.v (Go.Value.int Go.IntKind.i64 40)))) r85.1).bind fun r87 =>
  (pv r87.2 (pickA r85.1 r87.1 (.v (Go.Value.bool false)))).bind fun r88 =>
  condA r88.1 ((pv r88.2 (indexAddrA Try.prog 22 (get (prune kp_l04_DiskFlushed s.env) 1) (get (prune kp_l04_DiskFlushed s.env) 14))).bind fun r89 =>
  (pv r89.2 (fieldAddrA Try.prog 34 r89.1 1)).bind fun r90 =>
  (pv r90.2 (loadA Try.prog 3 r90.2 r90.1)).bind fun r91 =>
  (callA E md_l04_DiskFlushed r91.2 9 [r91.1, (.v (Go.Value.int Go.IntKind.i64 8))]).bind fun r92 =>
  (pv r92.2 (indexAddrA Try.prog 22 (get (prune kp_l04_DiskFlushed (prune kp_l04_DiskFlushed s.env)) 1) (get (prune kp_l04_DiskFlushed (prune kp_l04_DiskFlushed s.env)) 14))).bind fun r93 =>
  (pv r93.2 (fieldAddrA Try.prog 34 r93.1 2)).bind fun r94 =>
  (pv r94.2 (loadA Try.prog 32 r94.2 r94.1)).bind fun r95 =>
  (callA E md_l04_DiskFlushed r95.2 8 [(get (prune kp_l04_DiskFlushed (prune kp_l04_DiskFlushed s.env)) 7), r92.1, r95.1]).bind fun r96 =>
  (pv r96.2 (indexAddrA Try.prog 36 (get (prune kp_l04_DiskFlushed (prune kp_l04_DiskFlushed (prune kp_l04_DiskFlushed s.env))) 10) r92.1)).bind fun r97 =>
  (pv r97.2 (loadA Try.prog 35 r97.2 r97.1)).bind fun r98 =>
  (pv r98.2 (indexAddrA Try.prog 22 (get (prune kp_l04_DiskFlushed (prune kp_l04_DiskFlushed (prune kp_l04_DiskFlushed s.env))) 1) (get (prune kp_l04_DiskFlushed (prune kp_l04_DiskFlushed (prune kp_l04_DiskFlushed s.env))) 14))).bind fun r99 =>
  (pv r99.2 (fieldAddrA Try.prog 34 r99.1 2)).bind fun r100 =>
  (pv r100.2 (loadA Try.prog 32 r100.2 r100.1)).bind fun r101 =>
  (guardB (apartV (AV.bp (List.length r101.2) 0) r97.1 && true)).bind fun _ =>
  (buildSliceG Try.prog r101.2 35 1 [(0, r101.1)]).bind fun r102 =>
  (appA Try.prog n0 r102.2 35 r98.1 r102.1).bind fun r103 =>
  (guardB (freeA r98.1 r92.1 && (freeA r98.1 r92.1 && true))).bind fun _ =>
  (pv r103.2.2 (indexAddrA Try.prog 36 (get (mapE r103.2.1 (prune kp_l04_DiskFlushed (prune kp_l04_DiskFlushed (prune kp_l04_DiskFlushed s.env)))) 10) (r103.2.1 r92.1))).bind fun r104 =>
  (stA Try.prog 35 r104.2 r104.1 r103.1).bind fun r105 =>
  (pv r105.2 (binA Try.prog .add 3 (get (prune kp_l04_DiskFlushed (mapE r103.2.1 (prune kp_l04_DiskFlushed (prune kp_l04_DiskFlushed (prune kp_l04_DiskFlushed s.env))))) 14) (.v (Go.Value.int Go.IntKind.i64 1)))).bind fun r106 =>
  some (.normal, ⟨((14, r106.1) :: (15, (r103.2.1 r92.1)) :: (75, (r103.2.1 r88.1)) :: (prune kp_l04_DiskFlushed (prune kp_l04_DiskFlushed (mapE r103.2.1 (prune kp_l04_DiskFlushed (prune kp_l04_DiskFlushed (prune kp_l04_DiskFlushed s.env))))))), r106.2⟩)) (some (.exit 4, ⟨((75, r88.1) :: (prune kp_l04_DiskFlushed s.env)), r88.2⟩))
noncomputable def B_l04_DiskFlushed_2 (E : FnA) (_n n0 : Nat) (x14 x55 x11 x53 x10 x34 x9 x7 x22 x6 x0 x1 x2 : AV) (y : Bx) : Option (Ex × S) :=
  (pv y (lenA Try.prog 22 x1)).bind fun r61 =>
  (pv r61.2 (binA Try.prog .lss 3 x14 r61.1)).bind fun r62 =>
  (gsel true r62.2 (some (x14, r62.2)) r62.1).bind fun r63 =>
  (gsel true r63.2 (pv r63.2 (binA Try.prog .lss 3 r63.1 (.v (Go.Value.int Go.IntKind.i64 40)))) r62.1).bind fun r64 =>
  (pv r64.2 (pickA r62.1 r64.1 (.v (Go.Value.bool false)))).bind fun r65 =>
  condA r65.1 ((pv r65.2 (indexAddrA Try.prog 22 x1 x14)).bind fun r66 =>
  (pv r66.2 (fieldAddrA Try.prog 34 r66.1 1)).bind fun r67 =>
  (pv r67.2 (loadA Try.prog 3 r67.2 r67.1)).bind fun r68 =>
  (callA E md_l04_DiskFlushed r68.2 9 [r68.1, (.v (Go.Value.int Go.IntKind.i64 8))]).bind fun r69 =>
  (pv r69.2 (indexAddrA Try.prog 22 x1 x14)).bind fun r70 =>
  (pv r70.2 (fieldAddrA Try.prog 34 r70.1 2)).bind fun r71 =>
  (pv r71.2 (loadA Try.prog 32 r71.2 r71.1)).bind fun r72 =>
  (callA E md_l04_DiskFlushed r72.2 8 [x7, r69.1, r72.1]).bind fun r73 =>
  (pv r73.2 (indexAddrA Try.prog 36 x10 r69.1)).bind fun r74 =>
  (pv r74.2 (loadA Try.prog 35 r74.2 r74.1)).bind fun r75 =>
  (pv r75.2 (indexAddrA Try.prog 22 x1 x14)).bind fun r76 =>
  (pv r76.2 (fieldAddrA Try.prog 34 r76.1 2)).bind fun r77 =>
  (pv r77.2 (loadA Try.prog 32 r77.2 r77.1)).bind fun r78 =>
  (guardB (apartV (AV.bp (List.length r78.2) 0) r74.1 && true)).bind fun _ =>
  (buildSliceG Try.prog r78.2 35 1 [(0, r78.1)]).bind fun r79 =>
  (appA Try.prog n0 r79.2 35 r75.1 r79.1).bind fun r80 =>
  (guardB (freeA r75.1 r69.1 && (freeA r75.1 r69.1 && true))).bind fun _ =>
  (pv r80.2.2 (indexAddrA Try.prog 36 (r80.2.1 x10) (r80.2.1 r69.1))).bind fun r81 =>
  (stA Try.prog 35 r81.2 r81.1 r80.1).bind fun r82 =>
  (pv r82.2 (binA Try.prog .add 3 (r80.2.1 x14) (.v (Go.Value.int Go.IntKind.i64 1)))).bind fun r83 =>
  some (.normal, ⟨[(14, r83.1), (15, (r80.2.1 r69.1)), (75, (r80.2.1 r65.1)), (14, (r80.2.1 x14)), (55, (r80.2.1 x55)), (11, (r80.2.1 x11)), (53, (r80.2.1 x53)), (10, (r80.2.1 x10)), (34, (r80.2.1 x34)), (9, (r80.2.1 x9)), (7, (r80.2.1 x7)), (22, (r80.2.1 x22)), (6, (r80.2.1 x6)), (0, (r80.2.1 x0)), (1, (r80.2.1 x1)), (2, (r80.2.1 x2))], r83.2⟩)) (some (.exit 4, ⟨[(75, r65.1), (14, x14), (55, x55), (11, x11), (53, x53), (10, x10), (34, x34), (9, x9), (7, x7), (22, x22), (6, x6), (0, x0), (1, x1), (2, x2)], r65.2⟩))
theorem L_l04_DiskFlushed_2_lit {E : FnA} {n n0 : Nat} {x14 x55 x11 x53 x10 x34 x9 x7 x22 x6 x0 x1 x2 : AV} {y : Bx} {Q : Ex → S → Prop} (h : Ends (B_l04_DiskFlushed_2 E n n0 x14 x55 x11 x53 x10 x34 x9 x7 x22 x6 x0 x1 x2 y) Q) : Ends (L_l04_DiskFlushed_2 E n n0 ⟨[(14, x14), (55, x55), (11, x11), (53, x53), (10, x10), (34, x34), (9, x9), (7, x7), (22, x22), (6, x6), (0, x0), (1, x1), (2, x2)], y⟩) Q := by
  rw [show L_l04_DiskFlushed_2 E n n0 ⟨[(14, x14), (55, x55), (11, x11), (53, x53), (10, x10), (34, x34), (9, x9), (7, x7), (22, x22), (6, x6), (0, x0), (1, x1), (2, x2)], y⟩ = B_l04_DiskFlushed_2 E n n0 x14 x55 x11 x53 x10 x34 x9 x7 x22 x6 x0 x1 x2 y by kernel_rfl]
  exact h
noncomputable def K_l04_DiskFlushed_2 (E : FnA) (n n0 : Nat) (t : S) : Option (Ex × S) :=
  (callA E md_l04_DiskFlushed t.bx 12 [(get t.env 7), (get t.env 2)]).bind fun r179 =>
  exitA (iter (headK ⟨((16, (.v (Go.Value.int Go.IntKind.i64 0))) :: (prune kp_l04_DiskFlushed (prune kp_l04_DiskFlushed t.env))), r179.2⟩) (L_l04_DiskFlushed_3 E n n0) n ⟨((16, (.v (Go.Value.int Go.IntKind.i64 0))) :: (prune kp_l04_DiskFlushed (prune kp_l04_DiskFlushed t.env))), r179.2⟩) (K_l04_DiskFlushed_3 E n n0) (X_l04_DiskFlushed_3 E n n0)
noncomputable def X_l04_DiskFlushed_2 (E : FnA) (n n0 : Nat) (i : Nat) (t : S) : Option (Ex × S) :=
  if i = 4 then (callA E md_l04_DiskFlushed t.bx 12 [(get t.env 7), (get t.env 2)]).bind fun r107 =>
  exitA (iter (headK ⟨((16, (.v (Go.Value.int Go.IntKind.i64 0))) :: (prune kp_l04_DiskFlushed (prune kp_l04_DiskFlushed t.env))), r107.2⟩) (L_l04_DiskFlushed_3 E n n0) n ⟨((16, (.v (Go.Value.int Go.IntKind.i64 0))) :: (prune kp_l04_DiskFlushed (prune kp_l04_DiskFlushed t.env))), r107.2⟩) (K_l04_DiskFlushed_3 E n n0) (X_l04_DiskFlushed_3 E n n0) else some (.exit i, ⟨t.env, t.bx⟩)
noncomputable def X_l04_DiskFlushed_2_0 (E : FnA) (n n0 : Nat) (x75 x14 x55 x11 x53 x10 x34 x9 x7 x22 x6 x0 x1 x2 : AV) (y : Bx) : Option (Ex × S) :=
  (callA E md_l04_DiskFlushed y 12 [x7, x2]).bind fun r180 =>
  exitA (iter (headK ⟨[(16, (.v (Go.Value.int Go.IntKind.i64 0))), (75, x75), (14, x14), (55, x55), (11, x11), (53, x53), (10, x10), (34, x34), (9, x9), (7, x7), (22, x22), (6, x6), (0, x0), (1, x1), (2, x2)], r180.2⟩) (L_l04_DiskFlushed_3 E n n0) n ⟨[(16, (.v (Go.Value.int Go.IntKind.i64 0))), (75, x75), (14, x14), (55, x55), (11, x11), (53, x53), (10, x10), (34, x34), (9, x9), (7, x7), (22, x22), (6, x6), (0, x0), (1, x1), (2, x2)], r180.2⟩) (K_l04_DiskFlushed_3 E n n0) (X_l04_DiskFlushed_3 E n n0)
theorem X_l04_DiskFlushed_2_0_lit {E : FnA} {n n0 : Nat} {x75 x14 x55 x11 x53 x10 x34 x9 x7 x22 x6 x0 x1 x2 : AV} {y : Bx} {Q : Ex → S → Prop} (h : Ends (X_l04_DiskFlushed_2_0 E n n0 x75 x14 x55 x11 x53 x10 x34 x9 x7 x22 x6 x0 x1 x2 y) Q) : Ends (X_l04_DiskFlushed_2 E n n0 4 ⟨[(75, x75), (14, x14), (55, x55), (11, x11), (53, x53), (10, x10), (34, x34), (9, x9), (7, x7), (22, x22), (6, x6), (0, x0), (1, x1), (2, x2)], y⟩) Q := by
  rw [show X_l04_DiskFlushed_2 E n n0 4 ⟨[(75, x75), (14, x14), (55, x55), (11, x11), (53, x53), (10, x10), (34, x34), (9, x9), (7, x7), (22, x22), (6, x6), (0, x0), (1, x1), (2, x2)], y⟩ = X_l04_DiskFlushed_2_0 E n n0 x75 x14 x55 x11 x53 x10 x34 x9 x7 x22 x6 x0 x1 x2 y by kernel_rfl]
  exact h
noncomputable def L_l04_DiskFlushed_1 (E : FnA) (_n _n0 : Nat) (s : S) : Option (Ex × S) :=
  (pv s.bx (binA Try.prog .lss 3 (get s.env 11) (.v (Go.Value.int Go.IntKind.i64 8)))).bind fun r50 =>
  condA r50.1 ((callA E md_l04_DiskFlushed r50.2 11 [(get (prune kp_l04_DiskFlushed s.env) 7), (get (prune kp_l04_DiskFlushed s.env) 11)]).bind fun r51 =>
  (pv r51.2 (tupA r51.1 0)).bind fun r52 =>
  (pv r52.2 (tupA r51.1 1)).bind fun r53 =>
  (allocA Try.prog r53.2 32).bind fun r54 =>
  (stA Try.prog 32 r54.2 r54.1 r52.1).bind fun r55 =>
  (pv r55.2 (loadA Try.prog 32 r55.2 r54.1)).bind fun r56 =>
  (buildSliceG Try.prog r56.2 35 1 [(0, r56.1)]).bind fun r57 =>
  (pv r57.2 (indexAddrA Try.prog 36 (get (prune kp_l04_DiskFlushed (prune kp_l04_DiskFlushed s.env)) 10) (get (prune kp_l04_DiskFlushed (prune kp_l04_DiskFlushed s.env)) 11))).bind fun r58 =>
  (stA Try.prog 35 r58.2 r58.1 r57.1).bind fun r59 =>
  (pv r59.2 (binA Try.prog .add 3 (get (prune kp_l04_DiskFlushed (prune kp_l04_DiskFlushed (prune kp_l04_DiskFlushed s.env))) 11) (.v (Go.Value.int Go.IntKind.i64 1)))).bind fun r60 =>
  some (.normal, ⟨((11, r60.1) :: (12, r54.1) :: (55, r50.1) :: (prune kp_l04_DiskFlushed (prune kp_l04_DiskFlushed (prune kp_l04_DiskFlushed (prune kp_l04_DiskFlushed s.env))))), r60.2⟩)) (some (.exit 2, ⟨((55, r50.1) :: (prune kp_l04_DiskFlushed s.env)), r50.2⟩))
noncomputable def B_l04_DiskFlushed_1 (E : FnA) (_n _n0 : Nat) (x11 x53 x10 x34 x9 x7 x22 x6 x0 x1 x2 : AV) (y : Bx) : Option (Ex × S) :=
  (pv y (binA Try.prog .lss 3 x11 (.v (Go.Value.int Go.IntKind.i64 8)))).bind fun r39 =>
  condA r39.1 ((callA E md_l04_DiskFlushed r39.2 11 [x7, x11]).bind fun r40 =>
  (pv r40.2 (tupA r40.1 0)).bind fun r41 =>
  (pv r41.2 (tupA r40.1 1)).bind fun r42 =>
  (allocA Try.prog r42.2 32).bind fun r43 =>
  (stA Try.prog 32 r43.2 r43.1 r41.1).bind fun r44 =>
  (pv r44.2 (loadA Try.prog 32 r44.2 r43.1)).bind fun r45 =>
  (buildSliceG Try.prog r45.2 35 1 [(0, r45.1)]).bind fun r46 =>
  (pv r46.2 (indexAddrA Try.prog 36 x10 x11)).bind fun r47 =>
  (stA Try.prog 35 r47.2 r47.1 r46.1).bind fun r48 =>
  (pv r48.2 (binA Try.prog .add 3 x11 (.v (Go.Value.int Go.IntKind.i64 1)))).bind fun r49 =>
  some (.normal, ⟨[(11, r49.1), (12, r43.1), (55, r39.1), (11, x11), (53, x53), (10, x10), (34, x34), (9, x9), (7, x7), (22, x22), (6, x6), (0, x0), (1, x1), (2, x2)], r49.2⟩)) (some (.exit 2, ⟨[(55, r39.1), (11, x11), (53, x53), (10, x10), (34, x34), (9, x9), (7, x7), (22, x22), (6, x6), (0, x0), (1, x1), (2, x2)], r39.2⟩))
theorem L_l04_DiskFlushed_1_lit {E : FnA} {n n0 : Nat} {x11 x53 x10 x34 x9 x7 x22 x6 x0 x1 x2 : AV} {y : Bx} {Q : Ex → S → Prop} (h : Ends (B_l04_DiskFlushed_1 E n n0 x11 x53 x10 x34 x9 x7 x22 x6 x0 x1 x2 y) Q) : Ends (L_l04_DiskFlushed_1 E n n0 ⟨[(11, x11), (53, x53), (10, x10), (34, x34), (9, x9), (7, x7), (22, x22), (6, x6), (0, x0), (1, x1), (2, x2)], y⟩) Q := by
  rw [show L_l04_DiskFlushed_1 E n n0 ⟨[(11, x11), (53, x53), (10, x10), (34, x34), (9, x9), (7, x7), (22, x22), (6, x6), (0, x0), (1, x1), (2, x2)], y⟩ = B_l04_DiskFlushed_1 E n n0 x11 x53 x10 x34 x9 x7 x22 x6 x0 x1 x2 y by kernel_rfl]
  exact h
noncomputable def K_l04_DiskFlushed_1 (E : FnA) (n n0 : Nat) (t : S) : Option (Ex × S) :=
  exitA (iter (headK ⟨((14, (.v (Go.Value.int Go.IntKind.i64 0))) :: (prune kp_l04_DiskFlushed t.env)), t.bx⟩) (L_l04_DiskFlushed_2 E n n0) n ⟨((14, (.v (Go.Value.int Go.IntKind.i64 0))) :: (prune kp_l04_DiskFlushed t.env)), t.bx⟩) (K_l04_DiskFlushed_2 E n n0) (X_l04_DiskFlushed_2 E n n0)
noncomputable def X_l04_DiskFlushed_1 (E : FnA) (n n0 : Nat) (i : Nat) (t : S) : Option (Ex × S) :=
  if i = 2 then exitA (iter (headK ⟨((14, (.v (Go.Value.int Go.IntKind.i64 0))) :: (prune kp_l04_DiskFlushed t.env)), t.bx⟩) (L_l04_DiskFlushed_2 E n n0) n ⟨((14, (.v (Go.Value.int Go.IntKind.i64 0))) :: (prune kp_l04_DiskFlushed t.env)), t.bx⟩) (K_l04_DiskFlushed_2 E n n0) (X_l04_DiskFlushed_2 E n n0) else some (.exit i, ⟨t.env, t.bx⟩)
noncomputable def X_l04_DiskFlushed_1_0 (E : FnA) (n n0 : Nat) (x55 x11 x53 x10 x34 x9 x7 x22 x6 x0 x1 x2 : AV) (y : Bx) : Option (Ex × S) :=
  exitA (iter (headK ⟨[(14, (.v (Go.Value.int Go.IntKind.i64 0))), (55, x55), (11, x11), (53, x53), (10, x10), (34, x34), (9, x9), (7, x7), (22, x22), (6, x6), (0, x0), (1, x1), (2, x2)], y⟩) (L_l04_DiskFlushed_2 E n n0) n ⟨[(14, (.v (Go.Value.int Go.IntKind.i64 0))), (55, x55), (11, x11), (53, x53), (10, x10), (34, x34), (9, x9), (7, x7), (22, x22), (6, x6), (0, x0), (1, x1), (2, x2)], y⟩) (K_l04_DiskFlushed_2 E n n0) (X_l04_DiskFlushed_2 E n n0)
theorem X_l04_DiskFlushed_1_0_lit {E : FnA} {n n0 : Nat} {x55 x11 x53 x10 x34 x9 x7 x22 x6 x0 x1 x2 : AV} {y : Bx} {Q : Ex → S → Prop} (h : Ends (X_l04_DiskFlushed_1_0 E n n0 x55 x11 x53 x10 x34 x9 x7 x22 x6 x0 x1 x2 y) Q) : Ends (X_l04_DiskFlushed_1 E n n0 2 ⟨[(55, x55), (11, x11), (53, x53), (10, x10), (34, x34), (9, x9), (7, x7), (22, x22), (6, x6), (0, x0), (1, x1), (2, x2)], y⟩) Q := by
  rw [show X_l04_DiskFlushed_1 E n n0 2 ⟨[(55, x55), (11, x11), (53, x53), (10, x10), (34, x34), (9, x9), (7, x7), (22, x22), (6, x6), (0, x0), (1, x1), (2, x2)], y⟩ = X_l04_DiskFlushed_1_0 E n n0 x55 x11 x53 x10 x34 x9 x7 x22 x6 x0 x1 x2 y by kernel_rfl]
  exact h
noncomputable def L_l04_DiskFlushed_0 (E : FnA) (_n _n0 : Nat) (s : S) : Option (Ex × S) :=
  (pv s.bx (lenA Try.prog 22 (get s.env 0))).bind fun r20 =>
  (pv r20.2 (binA Try.prog .lss 3 (get s.env 9) r20.1)).bind fun r21 =>
  (gsel true r21.2 (some ((get s.env 9), r21.2)) r21.1).bind fun r22 =>
  (gsel true r22.2 (pv r22.2 (binA Try.prog .lss 3 r22.1 (.v (Go.Value.int Go.IntKind.i64 40)))) r21.1).bind fun r23 =>
  (pv r23.2 (pickA r21.1 r23.1 (.v (Go.Value.bool false)))).bind fun r24 =>
  condA r24.1 ((pv r24.2 (indexAddrA Try.prog 22 (get (prune kp_l04_DiskFlushed s.env) 0) (get (prune kp_l04_DiskFlushed s.env) 9))).bind fun r25 =>
  (pv r25.2 (fieldAddrA Try.prog 34 r25.1 1)).bind fun r26 =>
  (pv r26.2 (loadA Try.prog 3 r26.2 r26.1)).bind fun r27 =>
  (callA E md_l04_DiskFlushed r27.2 9 [r27.1, (.v (Go.Value.int Go.IntKind.i64 8))]).bind fun r28 =>
  (pv r28.2 (indexAddrA Try.prog 22 (get (prune kp_l04_DiskFlushed s.env) 0) (get (prune kp_l04_DiskFlushed s.env) 9))).bind fun r29 =>
  (pv r29.2 (fieldAddrA Try.prog 34 r29.1 2)).bind fun r30 =>
  (pv r30.2 (loadA Try.prog 32 r30.2 r30.1)).bind fun r31 =>
  (callA E md_l04_DiskFlushed r31.2 8 [(get (prune kp_l04_DiskFlushed s.env) 7), r28.1, r31.1]).bind fun r32 =>
  (pv r32.2 (binA Try.prog .add 3 (get (prune kp_l04_DiskFlushed (prune kp_l04_DiskFlushed s.env)) 9) (.v (Go.Value.int Go.IntKind.i64 1)))).bind fun r33 =>
  some (.normal, ⟨((9, r33.1) :: (34, r24.1) :: (prune kp_l04_DiskFlushed (prune kp_l04_DiskFlushed (prune kp_l04_DiskFlushed s.env)))), r33.2⟩)) (some (.exit 0, ⟨((34, r24.1) :: (prune kp_l04_DiskFlushed s.env)), r24.2⟩))
noncomputable def B_l04_DiskFlushed_0 (E : FnA) (_n _n0 : Nat) (x9 x7 x22 x6 x0 x1 x2 : AV) (y : Bx) : Option (Ex × S) :=
  (pv y (lenA Try.prog 22 x0)).bind fun r6 =>
  (pv r6.2 (binA Try.prog .lss 3 x9 r6.1)).bind fun r7 =>
  (gsel true r7.2 (some (x9, r7.2)) r7.1).bind fun r8 =>
  (gsel true r8.2 (pv r8.2 (binA Try.prog .lss 3 r8.1 (.v (Go.Value.int Go.IntKind.i64 40)))) r7.1).bind fun r9 =>
  (pv r9.2 (pickA r7.1 r9.1 (.v (Go.Value.bool false)))).bind fun r10 =>
  condA r10.1 ((pv r10.2 (indexAddrA Try.prog 22 x0 x9)).bind fun r11 =>
  (pv r11.2 (fieldAddrA Try.prog 34 r11.1 1)).bind fun r12 =>
  (pv r12.2 (loadA Try.prog 3 r12.2 r12.1)).bind fun r13 =>
  (callA E md_l04_DiskFlushed r13.2 9 [r13.1, (.v (Go.Value.int Go.IntKind.i64 8))]).bind fun r14 =>
  (pv r14.2 (indexAddrA Try.prog 22 x0 x9)).bind fun r15 =>
  (pv r15.2 (fieldAddrA Try.prog 34 r15.1 2)).bind fun r16 =>
  (pv r16.2 (loadA Try.prog 32 r16.2 r16.1)).bind fun r17 =>
  (callA E md_l04_DiskFlushed r17.2 8 [x7, r14.1, r17.1]).bind fun r18 =>
  (pv r18.2 (binA Try.prog .add 3 x9 (.v (Go.Value.int Go.IntKind.i64 1)))).bind fun r19 =>
  some (.normal, ⟨[(9, r19.1), (34, r10.1), (9, x9), (7, x7), (22, x22), (6, x6), (0, x0), (1, x1), (2, x2)], r19.2⟩)) (some (.exit 0, ⟨[(34, r10.1), (9, x9), (7, x7), (22, x22), (6, x6), (0, x0), (1, x1), (2, x2)], r10.2⟩))
theorem L_l04_DiskFlushed_0_lit {E : FnA} {n n0 : Nat} {x9 x7 x22 x6 x0 x1 x2 : AV} {y : Bx} {Q : Ex → S → Prop} (h : Ends (B_l04_DiskFlushed_0 E n n0 x9 x7 x22 x6 x0 x1 x2 y) Q) : Ends (L_l04_DiskFlushed_0 E n n0 ⟨[(9, x9), (7, x7), (22, x22), (6, x6), (0, x0), (1, x1), (2, x2)], y⟩) Q := by
  rw [show L_l04_DiskFlushed_0 E n n0 ⟨[(9, x9), (7, x7), (22, x22), (6, x6), (0, x0), (1, x1), (2, x2)], y⟩ = B_l04_DiskFlushed_0 E n n0 x9 x7 x22 x6 x0 x1 x2 y by kernel_rfl]
  exact h
noncomputable def K_l04_DiskFlushed_0 (E : FnA) (n n0 : Nat) (t : S) : Option (Ex × S) :=
  (pv t.bx (buildA Try.prog 36 [])).bind fun r181 =>
  (allocA Try.prog r181.2 36).bind fun r182 =>
  (stA Try.prog 36 r182.2 r182.1 r181.1).bind fun r183 =>
  (callA E md_l04_DiskFlushed r183.2 10 [(get (prune kp_l04_DiskFlushed t.env) 7)]).bind fun r184 =>
  (pv r184.2 (binA Try.prog .neq 26 r184.1 (.v (Go.Value.int Go.IntKind.i64 0)))).bind fun r185 =>
  condA r185.1 (some (.ret, ⟨((6, (.v (Go.Value.bool false))) :: (53, r185.1) :: (10, r182.1) :: (prune kp_l04_DiskFlushed (prune kp_l04_DiskFlushed (prune kp_l04_DiskFlushed t.env)))), r185.2⟩)) (exitA (iter (headK ⟨((11, (.v (Go.Value.int Go.IntKind.i64 0))) :: (53, r185.1) :: (10, r182.1) :: (prune kp_l04_DiskFlushed (prune kp_l04_DiskFlushed (prune kp_l04_DiskFlushed t.env)))), r185.2⟩) (L_l04_DiskFlushed_1 E n n0) n ⟨((11, (.v (Go.Value.int Go.IntKind.i64 0))) :: (53, r185.1) :: (10, r182.1) :: (prune kp_l04_DiskFlushed (prune kp_l04_DiskFlushed (prune kp_l04_DiskFlushed t.env)))), r185.2⟩) (K_l04_DiskFlushed_1 E n n0) (X_l04_DiskFlushed_1 E n n0))
noncomputable def X_l04_DiskFlushed_0 (E : FnA) (n n0 : Nat) (i : Nat) (t : S) : Option (Ex × S) :=
  if i = 0 then (pv t.bx (buildA Try.prog 36 [])).bind fun r34 =>
  (allocA Try.prog r34.2 36).bind fun r35 =>
  (stA Try.prog 36 r35.2 r35.1 r34.1).bind fun r36 =>
  (callA E md_l04_DiskFlushed r36.2 10 [(get (prune kp_l04_DiskFlushed t.env) 7)]).bind fun r37 =>
  (pv r37.2 (binA Try.prog .neq 26 r37.1 (.v (Go.Value.int Go.IntKind.i64 0)))).bind fun r38 =>
  condA r38.1 (some (.ret, ⟨((6, (.v (Go.Value.bool false))) :: (53, r38.1) :: (10, r35.1) :: (prune kp_l04_DiskFlushed (prune kp_l04_DiskFlushed (prune kp_l04_DiskFlushed t.env)))), r38.2⟩)) (exitA (iter (headK ⟨((11, (.v (Go.Value.int Go.IntKind.i64 0))) :: (53, r38.1) :: (10, r35.1) :: (prune kp_l04_DiskFlushed (prune kp_l04_DiskFlushed (prune kp_l04_DiskFlushed t.env)))), r38.2⟩) (L_l04_DiskFlushed_1 E n n0) n ⟨((11, (.v (Go.Value.int Go.IntKind.i64 0))) :: (53, r38.1) :: (10, r35.1) :: (prune kp_l04_DiskFlushed (prune kp_l04_DiskFlushed (prune kp_l04_DiskFlushed t.env)))), r38.2⟩) (K_l04_DiskFlushed_1 E n n0) (X_l04_DiskFlushed_1 E n n0)) else some (.exit i, ⟨t.env, t.bx⟩)
noncomputable def X_l04_DiskFlushed_0_0 (E : FnA) (n n0 : Nat) (x34 x9 x7 x22 x6 x0 x1 x2 : AV) (y : Bx) : Option (Ex × S) :=
  (pv y (buildA Try.prog 36 [])).bind fun r186 =>
  (allocA Try.prog r186.2 36).bind fun r187 =>
  (stA Try.prog 36 r187.2 r187.1 r186.1).bind fun r188 =>
  (callA E md_l04_DiskFlushed r188.2 10 [x7]).bind fun r189 =>
  (pv r189.2 (binA Try.prog .neq 26 r189.1 (.v (Go.Value.int Go.IntKind.i64 0)))).bind fun r190 =>
  condA r190.1 (some (.ret, ⟨[(6, (.v (Go.Value.bool false))), (53, r190.1), (10, r187.1), (34, x34), (9, x9), (7, x7), (22, x22), (6, x6), (0, x0), (1, x1), (2, x2)], r190.2⟩)) (exitA (iter (headK ⟨[(11, (.v (Go.Value.int Go.IntKind.i64 0))), (53, r190.1), (10, r187.1), (34, x34), (9, x9), (7, x7), (22, x22), (6, x6), (0, x0), (1, x1), (2, x2)], r190.2⟩) (L_l04_DiskFlushed_1 E n n0) n ⟨[(11, (.v (Go.Value.int Go.IntKind.i64 0))), (53, r190.1), (10, r187.1), (34, x34), (9, x9), (7, x7), (22, x22), (6, x6), (0, x0), (1, x1), (2, x2)], r190.2⟩) (K_l04_DiskFlushed_1 E n n0) (X_l04_DiskFlushed_1 E n n0))
theorem X_l04_DiskFlushed_0_0_lit {E : FnA} {n n0 : Nat} {x34 x9 x7 x22 x6 x0 x1 x2 : AV} {y : Bx} {Q : Ex → S → Prop} (h : Ends (X_l04_DiskFlushed_0_0 E n n0 x34 x9 x7 x22 x6 x0 x1 x2 y) Q) : Ends (X_l04_DiskFlushed_0 E n n0 0 ⟨[(34, x34), (9, x9), (7, x7), (22, x22), (6, x6), (0, x0), (1, x1), (2, x2)], y⟩) Q := by
  rw [show X_l04_DiskFlushed_0 E n n0 0 ⟨[(34, x34), (9, x9), (7, x7), (22, x22), (6, x6), (0, x0), (1, x1), (2, x2)], y⟩ = X_l04_DiskFlushed_0_0 E n n0 x34 x9 x7 x22 x6 x0 x1 x2 y by kernel_rfl]
  exact h
noncomputable def F_l04_DiskFlushed (E : FnA) (n n0 : Nat) (a0 a1 a2 : AV) (bx : Bx) : Option (Ex × S) :=
  (callA E md_l04_DiskFlushed bx 6 []).bind fun r1 =>
  (pv r1.2 (unA .not r1.1)).bind fun r2 =>
  condA r2.1 (some (.ret, ⟨[(6, (.v (Go.Value.bool false))), (22, r2.1), (6, (.v (Go.Value.bool false))), (0, a0), (1, a1), (2, a2)], r2.2⟩)) ((callA E md_l04_DiskFlushed r2.2 7 [(.v (Go.Value.int Go.IntKind.i64 8)), (.v (Go.Value.pointer none))]).bind fun r3 =>
  (pv r3.2 (tupA r3.1 0)).bind fun r4 =>
  (pv r4.2 (tupA r3.1 1)).bind fun r5 =>
  exitA (iter (headK ⟨[(9, (.v (Go.Value.int Go.IntKind.i64 0))), (7, r4.1), (22, r2.1), (6, (.v (Go.Value.bool false))), (0, a0), (1, a1), (2, a2)], r5.2⟩) (L_l04_DiskFlushed_0 E n n0) n ⟨[(9, (.v (Go.Value.int Go.IntKind.i64 0))), (7, r4.1), (22, r2.1), (6, (.v (Go.Value.bool false))), (0, a0), (1, a1), (2, a2)], r5.2⟩) (K_l04_DiskFlushed_0 E n n0) (X_l04_DiskFlushed_0 E n n0))
theorem c_l04_DiskFlushed_eq : Try.f3.body = some c_l04_DiskFlushed := by kernel_rfl
theorem d_l04_DiskFlushed : drawsOk Try.prog md_l04_DiskFlushed c_l04_DiskFlushed = true := by kernel_rfl
theorem F_l04_DiskFlushed_eq (E : FnA) (n n0 : Nat) (a0 a1 a2 : AV) (bx : Bx) : evK Try.prog md_l04_DiskFlushed E 148 kp_l04_DiskFlushed n n0 c_l04_DiskFlushed ⟨[(0, a0), (1, a1), (2, a2)], bx⟩ (fun s => some (.normal, s)) (fun i s => some (.exit i, s)) = F_l04_DiskFlushed E n n0 a0 a1 a2 bx := by kernel_rfl

theorem E_l04_DiskFlushed (n : Nat) (a0 a1 a2 : AV) (bx : Bx) : evFn cx0 ext0 (n + 1) 3 [a0, a1, a2] bx = fin Try.prog [.tmp 6] (F_l04_DiskFlushed (evFn cx0 ext0 n) n bx.length a0 a1 a2 bx) := by
  rw [evFn_eq2 (cx := cx0) (c := c_l04_DiskFlushed) rfl Try.func3 c_l04_DiskFlushed_eq (of_decide_eq_true (by kernel_rfl)) d_l04_DiskFlushed (of_decide_eq_true (by kernel_rfl))]
  exact congrArg (fin Try.prog [.tmp 6]) (F_l04_DiskFlushed_eq (evFn cx0 ext0 n) n bx.length a0 a1 a2 bx)

/-- scupper/scupperbase.Among -/
def kp_base_Among : Option (List Nat) := some [0, 1, 4, 6]
noncomputable def c_base_Among : Code := Try.f9.body.getD .skip
noncomputable def F_base_Among (_E : FnA) (_n _n0 : Nat) (a0 a1 : AV) (bx : Bx) : Option (Ex × S) :=
  (pv bx (binA Try.prog .lss 3 a1 (.v (Go.Value.int Go.IntKind.i64 1)))).bind fun r1 =>
  condA r1.1 (some (.ret, ⟨[(4, (.v (Go.Value.int Go.IntKind.i64 0))), (6, r1.1), (4, (.v (Go.Value.int Go.IntKind.i64 0))), (0, a0), (1, a1)], r1.2⟩)) ((convA Try.prog r1.2 3 65 a0).bind fun r2 =>
  (convA Try.prog r2.2 3 65 a1).bind fun r3 =>
  (pv r3.2 (binA Try.prog .rem 65 r2.1 r3.1)).bind fun r4 =>
  (convA Try.prog r4.2 65 3 r4.1).bind fun r5 =>
  some (.ret, ⟨[(4, r5.1), (6, r1.1), (4, (.v (Go.Value.int Go.IntKind.i64 0))), (0, a0), (1, a1)], r5.2⟩))
theorem c_base_Among_eq : Try.f9.body = some c_base_Among := by kernel_rfl
theorem d_base_Among : drawsOk Try.prog md0 c_base_Among = true := by kernel_rfl
theorem F_base_Among_eq (E : FnA) (n n0 : Nat) (a0 a1 : AV) (bx : Bx) : evK Try.prog md0 E 13 kp_base_Among n n0 c_base_Among ⟨[(0, a0), (1, a1)], bx⟩ (fun s => some (.normal, s)) (fun i s => some (.exit i, s)) = F_base_Among E n n0 a0 a1 bx := by kernel_rfl

theorem E_base_Among (n : Nat) (a0 a1 : AV) (bx : Bx) : evFn cx0 ext0 (n + 1) 9 [a0, a1] bx = fin Try.prog [.tmp 4] (F_base_Among (evFn cx0 ext0 n) n bx.length a0 a1 bx) := by
  rw [evFn_eq2 (cx := cx0) (c := c_base_Among) rfl Try.func9 c_base_Among_eq (of_decide_eq_true (by kernel_rfl)) d_base_Among (of_decide_eq_true (by kernel_rfl))]
  exact congrArg (fin Try.prog [.tmp 4]) (F_base_Among_eq (evFn cx0 ext0 n) n bx.length a0 a1 bx)

end Go.Sy
