/-
  What the functions under this seat's laws read as, in the reader's words; no conditions.
-/
import Derived.Test.YtijmfjpcjceejaaSyStep
import Derived.Test.YtijmfjpcjceejaaProg
import Derived.KernelRfl
import Derived.Test.YtijmfjpcjceejaaPfNew
namespace Go.Sy
open Go.Proofs
def kpT : FuncId → Option (List Nat)
  | 6 => some [0, 1, 2, 3, 4, 5, 6, 12]
  | 3 => some [1000000, 0, 1, 2, 6, 7, 9, 10, 11, 12, 14, 15, 16, 17, 18, 19, 20, 22, 34, 53, 55, 75, 108, 122, 147]
  | 9 => some [0, 1, 4, 6]
  | 5 => some [1000000, 0, 1, 4, 5, 6, 7, 8, 9, 10, 11, 12, 13, 14, 15, 16, 17, 18, 42, 54, 94, 103, 128, 151, 173]
  | 22 => some [0, 1, 2, 3, 4, 9, 10, 11, 12, 15, 16, 31, 38, 49, 60, 66, 79, 93]
  | 19 => some [0]
  | 23 => some [0, 2]
  | 33 => some [0, 1, 4, 10]
  | 35 => some [0, 3]
  | 20 => some [0]
  | 34 => some [0, 1, 4, 6]
  | 36 => some [0]
  | 41 => some [0, 2, 13, 21]
  | 24 => some [0, 1, 4, 5, 6, 10, 21]
  | 29 => some [0, 1, 2, 5, 6, 7, 11, 18]
  | 30 => some [1000000, 0, 2, 3, 4, 11, 28]
  | 32 => some [1000000, 0, 1, 4, 5, 21, 27, 43]
  | 37 => some [1000000, 0, 1, 4, 5, 13, 17]
  | 38 => some [0, 1, 2, 5, 6, 7, 11, 18]
  | 39 => some [0, 1, 4]
  | 31 => some [0, 2]
  | _ => none
def md_l04_works : FuncId → Md
  | 7 => .objK
  | 8 => .objK
  | 12 => .objK
  | 11 => .objK
  | _ => .frozen
def md_l04_DiskFlushed : FuncId → Md
  | 1000001 => .objK
  | 7 => .objK
  | 8 => .objK
  | 10 => .objK
  | 11 => .objK
  | 12 => .objK
  | 13 => .objK
  | _ => .frozen
def md_r04_Disk_Write : FuncId → Md
  | 1000000 => .objK
  | 41 => .objK
  | _ => .frozen
def md_r04_Disk_Force : FuncId → Md
  | 41 => .objK
  | _ => .frozen
def md_r04_Disk_Flush : FuncId → Md
  | 41 => .objK
  | 24 => .objR
  | _ => .frozen
def md_l04_do : FuncId → Md
  | 1000002 => .objK
  | 1000000 => .objK
  | 14 => .objK
  | 29 => .objK
  | 10 => .objK
  | 30 => .objK
  | 12 => .objK
  | 32 => .objK
  | 33 => .objK
  | 34 => .objK
  | 35 => .objK
  | 36 => .objK
  | 18 => .objK
  | 15 => .objK
  | 37 => .objK
  | 8 => .objK
  | 38 => .objK
  | _ => .frozen
def md_l04_DiskPlays : FuncId → Md
  | 19 => .objK
  | 20 => .objK
  | 7 => .objK
  | 21 => .objK
  | 22 => .objK
  | 11 => .objK
  | 24 => .objK
  | 18 => .objK
  | 13 => .objK
  | _ => .frozen
def mdT : FuncId → FuncId → Md
  | 6 => md_l04_works
  | 3 => md_l04_DiskFlushed
  | 38 => md_r04_Disk_Write
  | 29 => md_r04_Disk_Force
  | 30 => md_r04_Disk_Flush
  | 22 => md_l04_do
  | 5 => md_l04_DiskPlays
  | _ => md0
noncomputable def cx0 : Cx := { P := Try.prog, md := mdT, kp := kpT }
noncomputable def ext0 : FnA := extE
theorem ext0_ok (f : FuncId) (args : List AV) (bx : Bx) (r : AV) (bx' : Bx) (h : ext0 f args bx = some (r, bx')) : Sound cx0.P f args bx r bx' := extE_ok f args bx r bx' h
/-- scupper/scupperlaw04.works -/
def kp_l04_works : Option (List Nat) := some [0, 1, 2, 3, 4, 5, 6, 12]
noncomputable def c_l04_works : Code := Try.f6.body.getD .skip
noncomputable def F_l04_works (E : FnA) (_n _n0 : Nat) (bx : Bx) : Option (Ex × S) :=
  (callA E md_l04_works bx 7 [(.v (Go.Value.int Go.IntKind.i64 2)), (.v (Go.Value.pointer none))]).bind fun r1 =>
  (pv r1.2 (tupA r1.1 0)).bind fun r2 =>
  (pv r2.2 (tupA r1.1 1)).bind fun r3 =>
  (pv r3.2 (binA Try.prog .eql 25 r2.1 (.v (Go.Value.pointer none)))).bind fun r4 =>
  condA r4.1 (some (.ret, ⟨[(0, (.v (Go.Value.bool false))), (12, r4.1), (2, r3.1), (1, r2.1), (0, (.v (Go.Value.bool false)))], r4.2⟩)) ((pv r4.2 (buildA Try.prog 32 [(0, (.v (Go.Value.int Go.IntKind.u8 1)))])).bind fun r5 =>
  (callA E md_l04_works r5.2 8 [r2.1, (.v (Go.Value.int Go.IntKind.i64 0)), r5.1]).bind fun r6 =>
  (pv r6.2 (buildA Try.prog 32 [(0, (.v (Go.Value.int Go.IntKind.u8 2)))])).bind fun r7 =>
  (callA E md_l04_works r7.2 8 [r2.1, (.v (Go.Value.int Go.IntKind.i64 0)), r7.1]).bind fun r8 =>
  (buildSliceA Try.prog r8.2 23 1 [(0, (.v (Go.Value.int Go.IntKind.i64 1)))]).bind fun r9 =>
  (callA E md_l04_works r9.2 12 [r2.1, r9.1]).bind fun r10 =>
  (callA E md_l04_works r10.2 11 [r2.1, (.v (Go.Value.int Go.IntKind.i64 0))]).bind fun r11 =>
  (pv r11.2 (tupA r11.1 0)).bind fun r12 =>
  (pv r12.2 (tupA r11.1 1)).bind fun r13 =>
  (allocA Try.prog r13.2 32).bind fun r14 =>
  (stA Try.prog 32 r14.2 r14.1 r12.1).bind fun r15 =>
  (pv r15.2 (binA Try.prog .eql 26 r3.1 (.v (Go.Value.int Go.IntKind.i64 0)))).bind fun r16 =>
  (gsel true r16.2 (some (r6.1, r16.2)) r16.1).bind fun r17 =>
  (gsel true r17.2 (pv r17.2 (binA Try.prog .eql 26 r17.1 (.v (Go.Value.int Go.IntKind.i64 0)))) r16.1).bind fun r18 =>
  (pv r18.2 (pickA r16.1 r18.1 (.v (Go.Value.bool false)))).bind fun r19 =>
  (gsel true r19.2 (some (r8.1, r19.2)) r19.1).bind fun r20 =>
  (gsel true r20.2 (pv r20.2 (binA Try.prog .eql 26 r20.1 (.v (Go.Value.int Go.IntKind.i64 0)))) r19.1).bind fun r21 =>
  (pv r21.2 (pickA r19.1 r21.1 (.v (Go.Value.bool false)))).bind fun r22 =>
  (gsel true r22.2 (pv r22.2 (loadA Try.prog 32 r22.2 r14.1)) r22.1).bind fun r23 =>
  (gsel true r23.2 (pv r23.2 (buildA Try.prog 32 [(0, (.v (Go.Value.int Go.IntKind.u8 1)))])) r22.1).bind fun r24 =>
  (gsel true r24.2 (pv r24.2 (binA Try.prog .eql 32 r23.1 r24.1)) r22.1).bind fun r25 =>
  (pv r25.2 (pickA r22.1 r25.1 (.v (Go.Value.bool false)))).bind fun r26 =>
  (gsel true r26.2 (some (r13.1, r26.2)) r26.1).bind fun r27 =>
  (gsel true r27.2 (pv r27.2 (binA Try.prog .eql 26 r27.1 (.v (Go.Value.int Go.IntKind.i64 0)))) r26.1).bind fun r28 =>
  (pv r28.2 (pickA r26.1 r28.1 (.v (Go.Value.bool false)))).bind fun r29 =>
  some (.ret, ⟨[(0, r29.1), (6, r13.1), (5, r14.1), (4, r8.1), (3, r6.1), (12, r4.1), (2, r3.1), (1, r2.1), (0, (.v (Go.Value.bool false)))], r29.2⟩))
theorem c_l04_works_eq : Try.f6.body = some c_l04_works := by kernel_rfl
theorem d_l04_works : drawsOk Try.prog md_l04_works c_l04_works = true := by kernel_rfl
theorem F_l04_works_eq (E : FnA) (n n0 : Nat) (bx : Bx) : evK Try.prog md_l04_works E 46 kp_l04_works n n0 c_l04_works ⟨[], bx⟩ (fun s => some (.normal, s)) (fun i s => some (.exit i, s)) = F_l04_works E n n0  bx := by kernel_rfl

theorem E_l04_works (n : Nat) (bx : Bx) : evFn cx0 ext0 (n + 1) 6 [] bx = fin Try.prog [.tmp 0] (F_l04_works (evFn cx0 ext0 n) n bx.length  bx) := by
  rw [evFn_eq2 (cx := cx0) (c := c_l04_works) rfl Try.func6 c_l04_works_eq (of_decide_eq_true (by kernel_rfl)) d_l04_works (of_decide_eq_true (by kernel_rfl))]
  exact congrArg (fin Try.prog [.tmp 0]) (F_l04_works_eq (evFn cx0 ext0 n) n bx.length  bx)

/-- scupper/scupperlaw04.DiskFlushed -/
def kp_l04_DiskFlushed : Option (List Nat) := some [1000000, 0, 1, 2, 6, 7, 9, 10, 11, 12, 14, 15, 16, 17, 18, 19, 20, 22, 34, 53, 55, 75, 108, 122, 147]
noncomputable def c_l04_DiskFlushed : Code := Try.f3.body.getD .skip
noncomputable def L_l04_DiskFlushed_4 (_E : FnA) (_n _n0 : Nat) (s : S) : Option (Ex × S) :=
  (pv s.bx (indexAddrA Try.prog 36 (get s.env 10) (get s.env 16))).bind fun r128 =>
  (pv r128.2 (loadA Try.prog 35 r128.2 r128.1)).bind fun r129 =>
  (pv r129.2 (lenA Try.prog 35 r129.1)).bind fun r130 =>
  (pv r130.2 (binA Try.prog .lss 3 (get s.env 20) r130.1)).bind fun r131 =>
  condA r131.1 ((gsel false r131.2 (some ((get (prune kp_l04_DiskFlushed s.env) 16), r131.2)) (get (prune kp_l04_DiskFlushed s.env) 19)).bind fun r132 =>
  (gsel false r132.2 (pv r132.2 (indexAddrA Try.prog 36 (get (prune kp_l04_DiskFlushed s.env) 10) r132.1)) (get (prune kp_l04_DiskFlushed s.env) 19)).bind fun r133 =>
  (gsel false r133.2 (pv r133.2 (loadA Try.prog 35 r133.2 r133.1)) (get (prune kp_l04_DiskFlushed s.env) 19)).bind fun r134 =>
  (gsel false r134.2 (some ((get (prune kp_l04_DiskFlushed s.env) 20), r134.2)) (get (prune kp_l04_DiskFlushed s.env) 19)).bind fun r135 =>
  (gsel false r135.2 (pv r135.2 (indexAddrA Try.prog 35 r134.1 r135.1)) (get (prune kp_l04_DiskFlushed s.env) 19)).bind fun r136 =>
  (gsel false r136.2 (pv r136.2 (loadA Try.prog 32 r136.2 r136.1)) (get (prune kp_l04_DiskFlushed s.env) 19)).bind fun r137 =>
  (gsel false r137.2 (pv r137.2 (loadA Try.prog 32 r137.2 (get (prune kp_l04_DiskFlushed s.env) 17))) (get (prune kp_l04_DiskFlushed s.env) 19)).bind fun r138 =>
  (gsel false r138.2 (pv r138.2 (binA Try.prog .eql 32 r137.1 r138.1)) (get (prune kp_l04_DiskFlushed s.env) 19)).bind fun r139 =>
  (pv r139.2 (pickA (get (prune kp_l04_DiskFlushed s.env) 19) (.v (Go.Value.bool true)) r139.1)).bind fun r140 =>
  (pv r140.2 (binA Try.prog .add 3 (get (prune kp_l04_DiskFlushed (prune kp_l04_DiskFlushed s.env)) 20) (.v (Go.Value.int Go.IntKind.i64 1)))).bind fun r141 =>
  some (.normal, ⟨((20, r141.1) :: (19, r140.1) :: (122, r131.1) :: (prune kp_l04_DiskFlushed (prune kp_l04_DiskFlushed (prune kp_l04_DiskFlushed s.env)))), r141.2⟩)) (some (.exit 8, ⟨((122, r131.1) :: (prune kp_l04_DiskFlushed s.env)), r131.2⟩))
noncomputable def B_l04_DiskFlushed_4 (_E : FnA) (_n _n0 : Nat) (x20 x19 x18 x17 x108 x16 x75 x14 x55 x11 x53 x10 x34 x9 x7 x22 x6 x0 x1 x2 : AV) (y : Bx) : Option (Ex × S) :=
  (pv y (indexAddrA Try.prog 36 x10 x16)).bind fun r114 =>
  (pv r114.2 (loadA Try.prog 35 r114.2 r114.1)).bind fun r115 =>
  (pv r115.2 (lenA Try.prog 35 r115.1)).bind fun r116 =>
  (pv r116.2 (binA Try.prog .lss 3 x20 r116.1)).bind fun r117 =>
  condA r117.1 ((gsel false r117.2 (some (x16, r117.2)) x19).bind fun r118 =>
  (gsel false r118.2 (pv r118.2 (indexAddrA Try.prog 36 x10 r118.1)) x19).bind fun r119 =>
  (gsel false r119.2 (pv r119.2 (loadA Try.prog 35 r119.2 r119.1)) x19).bind fun r120 =>
  (gsel false r120.2 (some (x20, r120.2)) x19).bind fun r121 =>
  (gsel false r121.2 (pv r121.2 (indexAddrA Try.prog 35 r120.1 r121.1)) x19).bind fun r122 =>
  (gsel false r122.2 (pv r122.2 (loadA Try.prog 32 r122.2 r122.1)) x19).bind fun r123 =>
  (gsel false r123.2 (pv r123.2 (loadA Try.prog 32 r123.2 x17)) x19).bind fun r124 =>
  (gsel false r124.2 (pv r124.2 (binA Try.prog .eql 32 r123.1 r124.1)) x19).bind fun r125 =>
  (pv r125.2 (pickA x19 (.v (Go.Value.bool true)) r125.1)).bind fun r126 =>
  (pv r126.2 (binA Try.prog .add 3 x20 (.v (Go.Value.int Go.IntKind.i64 1)))).bind fun r127 =>
  some (.normal, ⟨[(20, r127.1), (19, r126.1), (122, r117.1), (20, x20), (19, x19), (18, x18), (17, x17), (108, x108), (16, x16), (75, x75), (14, x14), (55, x55), (11, x11), (53, x53), (10, x10), (34, x34), (9, x9), (7, x7), (22, x22), (6, x6), (0, x0), (1, x1), (2, x2)], r127.2⟩)) (some (.exit 8, ⟨[(122, r117.1), (20, x20), (19, x19), (18, x18), (17, x17), (108, x108), (16, x16), (75, x75), (14, x14), (55, x55), (11, x11), (53, x53), (10, x10), (34, x34), (9, x9), (7, x7), (22, x22), (6, x6), (0, x0), (1, x1), (2, x2)], r117.2⟩))
theorem L_l04_DiskFlushed_4_lit {E : FnA} {n n0 : Nat} {x20 x19 x18 x17 x108 x16 x75 x14 x55 x11 x53 x10 x34 x9 x7 x22 x6 x0 x1 x2 : AV} {y : Bx} {Q : Ex → S → Prop} (h : Ends (B_l04_DiskFlushed_4 E n n0 x20 x19 x18 x17 x108 x16 x75 x14 x55 x11 x53 x10 x34 x9 x7 x22 x6 x0 x1 x2 y) Q) : Ends (L_l04_DiskFlushed_4 E n n0 ⟨[(20, x20), (19, x19), (18, x18), (17, x17), (108, x108), (16, x16), (75, x75), (14, x14), (55, x55), (11, x11), (53, x53), (10, x10), (34, x34), (9, x9), (7, x7), (22, x22), (6, x6), (0, x0), (1, x1), (2, x2)], y⟩) Q := by
  rw [show L_l04_DiskFlushed_4 E n n0 ⟨[(20, x20), (19, x19), (18, x18), (17, x17), (108, x108), (16, x16), (75, x75), (14, x14), (55, x55), (11, x11), (53, x53), (10, x10), (34, x34), (9, x9), (7, x7), (22, x22), (6, x6), (0, x0), (1, x1), (2, x2)], y⟩ = B_l04_DiskFlushed_4 E n n0 x20 x19 x18 x17 x108 x16 x75 x14 x55 x11 x53 x10 x34 x9 x7 x22 x6 x0 x1 x2 y by kernel_rfl]
  exact h
noncomputable def K_l04_DiskFlushed_4 (E : FnA) (_n _n0 : Nat) (t : S) : Option (Ex × S) :=
  (pv t.bx (binA Try.prog .neq 26 (get t.env 18) (.v (Go.Value.int Go.IntKind.i64 0)))).bind fun r153 =>
  (gsel false r153.2 (some ((get t.env 19), r153.2)) r153.1).bind fun r154 =>
  (gsel false r154.2 (pv r154.2 (unA .not r154.1)) r153.1).bind fun r155 =>
  (pv r155.2 (pickA r153.1 (.v (Go.Value.bool true)) r155.1)).bind fun r156 =>
  (gsel false r156.2 (some ((get t.env 7), r156.2)) r156.1).bind fun r157 =>
  (gsel false r157.2 (some ((get t.env 16), r157.2)) r156.1).bind fun r158 =>
  (gsel false r158.2 (callA E md_l04_DiskFlushed r158.2 13 [r157.1, r158.1]) r156.1).bind fun r159 =>
  (gsel false r159.2 (pv r159.2 (binA Try.prog .neq 3 r159.1 (.v (Go.Value.int Go.IntKind.i64 0)))) r156.1).bind fun r160 =>
  (pv r160.2 (pickA r156.1 (.v (Go.Value.bool true)) r160.1)).bind fun r161 =>
  condA r161.1 (some (.ret, ⟨((6, (.v (Go.Value.bool false))) :: (147, r161.1) :: (prune kp_l04_DiskFlushed (prune kp_l04_DiskFlushed t.env))), r161.2⟩)) ((pv r161.2 (binA Try.prog .add 3 (get (prune kp_l04_DiskFlushed t.env) 16) (.v (Go.Value.int Go.IntKind.i64 1)))).bind fun r162 =>
  some (.normal, ⟨((16, r162.1) :: (147, r161.1) :: (prune kp_l04_DiskFlushed (prune kp_l04_DiskFlushed t.env))), r162.2⟩))
noncomputable def X_l04_DiskFlushed_4 (E : FnA) (_n _n0 : Nat) (i : Nat) (t : S) : Option (Ex × S) :=
  if i = 8 then (pv t.bx (binA Try.prog .neq 26 (get t.env 18) (.v (Go.Value.int Go.IntKind.i64 0)))).bind fun r142 =>
  (gsel false r142.2 (some ((get t.env 19), r142.2)) r142.1).bind fun r143 =>
  (gsel false r143.2 (pv r143.2 (unA .not r143.1)) r142.1).bind fun r144 =>
  (pv r144.2 (pickA r142.1 (.v (Go.Value.bool true)) r144.1)).bind fun r145 =>
  (gsel false r145.2 (some ((get t.env 7), r145.2)) r145.1).bind fun r146 =>
  (gsel false r146.2 (some ((get t.env 16), r146.2)) r145.1).bind fun r147 =>
  (gsel false r147.2 (callA E md_l04_DiskFlushed r147.2 13 [r146.1, r147.1]) r145.1).bind fun r148 =>
  (gsel false r148.2 (pv r148.2 (binA Try.prog .neq 3 r148.1 (.v (Go.Value.int Go.IntKind.i64 0)))) r145.1).bind fun r149 =>
  (pv r149.2 (pickA r145.1 (.v (Go.Value.bool true)) r149.1)).bind fun r150 =>
  condA r150.1 (some (.ret, ⟨((6, (.v (Go.Value.bool false))) :: (147, r150.1) :: (prune kp_l04_DiskFlushed (prune kp_l04_DiskFlushed t.env))), r150.2⟩)) ((pv r150.2 (binA Try.prog .add 3 (get (prune kp_l04_DiskFlushed t.env) 16) (.v (Go.Value.int Go.IntKind.i64 1)))).bind fun r151 =>
  some (.normal, ⟨((16, r151.1) :: (147, r150.1) :: (prune kp_l04_DiskFlushed (prune kp_l04_DiskFlushed t.env))), r151.2⟩)) else if i = 7 then (pv t.bx (binA Try.prog .add 3 (get t.env 16) (.v (Go.Value.int Go.IntKind.i64 1)))).bind fun r152 =>
  some (.normal, ⟨((16, r152.1) :: (prune kp_l04_DiskFlushed t.env)), r152.2⟩) else some (.exit i, ⟨t.env, t.bx⟩)
noncomputable def X_l04_DiskFlushed_4_0 (E : FnA) (_n _n0 : Nat) (x122 x20 x19 x18 x17 x108 x16 x75 x14 x55 x11 x53 x10 x34 x9 x7 x22 x6 x0 x1 x2 : AV) (y : Bx) : Option (Ex × S) :=
  (pv y (binA Try.prog .neq 26 x18 (.v (Go.Value.int Go.IntKind.i64 0)))).bind fun r163 =>
  (gsel false r163.2 (some (x19, r163.2)) r163.1).bind fun r164 =>
  (gsel false r164.2 (pv r164.2 (unA .not r164.1)) r163.1).bind fun r165 =>
  (pv r165.2 (pickA r163.1 (.v (Go.Value.bool true)) r165.1)).bind fun r166 =>
  (gsel false r166.2 (some (x7, r166.2)) r166.1).bind fun r167 =>
  (gsel false r167.2 (some (x16, r167.2)) r166.1).bind fun r168 =>
  (gsel false r168.2 (callA E md_l04_DiskFlushed r168.2 13 [r167.1, r168.1]) r166.1).bind fun r169 =>
  (gsel false r169.2 (pv r169.2 (binA Try.prog .neq 3 r169.1 (.v (Go.Value.int Go.IntKind.i64 0)))) r166.1).bind fun r170 =>
  (pv r170.2 (pickA r166.1 (.v (Go.Value.bool true)) r170.1)).bind fun r171 =>
  condA r171.1 (some (.ret, ⟨[(6, (.v (Go.Value.bool false))), (147, r171.1), (122, x122), (20, x20), (19, x19), (18, x18), (17, x17), (108, x108), (16, x16), (75, x75), (14, x14), (55, x55), (11, x11), (53, x53), (10, x10), (34, x34), (9, x9), (7, x7), (22, x22), (6, x6), (0, x0), (1, x1), (2, x2)], r171.2⟩)) ((pv r171.2 (binA Try.prog .add 3 x16 (.v (Go.Value.int Go.IntKind.i64 1)))).bind fun r172 =>
  some (.normal, ⟨[(16, r172.1), (147, r171.1), (122, x122), (20, x20), (19, x19), (18, x18), (17, x17), (108, x108), (16, x16), (75, x75), (14, x14), (55, x55), (11, x11), (53, x53), (10, x10), (34, x34), (9, x9), (7, x7), (22, x22), (6, x6), (0, x0), (1, x1), (2, x2)], r172.2⟩))
theorem X_l04_DiskFlushed_4_0_lit {E : FnA} {n n0 : Nat} {x122 x20 x19 x18 x17 x108 x16 x75 x14 x55 x11 x53 x10 x34 x9 x7 x22 x6 x0 x1 x2 : AV} {y : Bx} {Q : Ex → S → Prop} (h : Ends (X_l04_DiskFlushed_4_0 E n n0 x122 x20 x19 x18 x17 x108 x16 x75 x14 x55 x11 x53 x10 x34 x9 x7 x22 x6 x0 x1 x2 y) Q) : Ends (X_l04_DiskFlushed_4 E n n0 8 ⟨[(122, x122), (20, x20), (19, x19), (18, x18), (17, x17), (108, x108), (16, x16), (75, x75), (14, x14), (55, x55), (11, x11), (53, x53), (10, x10), (34, x34), (9, x9), (7, x7), (22, x22), (6, x6), (0, x0), (1, x1), (2, x2)], y⟩) Q := by
  rw [show X_l04_DiskFlushed_4 E n n0 8 ⟨[(122, x122), (20, x20), (19, x19), (18, x18), (17, x17), (108, x108), (16, x16), (75, x75), (14, x14), (55, x55), (11, x11), (53, x53), (10, x10), (34, x34), (9, x9), (7, x7), (22, x22), (6, x6), (0, x0), (1, x1), (2, x2)], y⟩ = X_l04_DiskFlushed_4_0 E n n0 x122 x20 x19 x18 x17 x108 x16 x75 x14 x55 x11 x53 x10 x34 x9 x7 x22 x6 x0 x1 x2 y by kernel_rfl]
  exact h
noncomputable def L_l04_DiskFlushed_3 (E : FnA) (n n0 : Nat) (s : S) : Option (Ex × S) :=
  (pv s.bx (binA Try.prog .lss 3 (get s.env 16) (.v (Go.Value.int Go.IntKind.i64 8)))).bind fun r173 =>
  condA r173.1 ((callA E md_l04_DiskFlushed r173.2 11 [(get (prune kp_l04_DiskFlushed s.env) 7), (get (prune kp_l04_DiskFlushed s.env) 16)]).bind fun r174 =>
  (pv r174.2 (tupA r174.1 0)).bind fun r175 =>
  (pv r175.2 (tupA r174.1 1)).bind fun r176 =>
  (allocA Try.prog r176.2 32).bind fun r177 =>
  (stA Try.prog 32 r177.2 r177.1 r175.1).bind fun r178 =>
  exitA (iter (headK ⟨((20, (.v (Go.Value.int Go.IntKind.i64 0))) :: (19, (.v (Go.Value.bool false))) :: (18, r176.1) :: (17, r177.1) :: (108, r173.1) :: (prune kp_l04_DiskFlushed (prune kp_l04_DiskFlushed (prune kp_l04_DiskFlushed (prune kp_l04_DiskFlushed s.env))))), r178.2⟩) (L_l04_DiskFlushed_4 E n n0) n ⟨((20, (.v (Go.Value.int Go.IntKind.i64 0))) :: (19, (.v (Go.Value.bool false))) :: (18, r176.1) :: (17, r177.1) :: (108, r173.1) :: (prune kp_l04_DiskFlushed (prune kp_l04_DiskFlushed (prune kp_l04_DiskFlushed (prune kp_l04_DiskFlushed s.env))))), r178.2⟩) (K_l04_DiskFlushed_4 E n n0) (X_l04_DiskFlushed_4 E n n0)) (some (.exit 6, ⟨((108, r173.1) :: (prune kp_l04_DiskFlushed s.env)), r173.2⟩))
noncomputable def B_l04_DiskFlushed_3 (E : FnA) (n n0 : Nat) (x16 x75 x14 x55 x11 x53 x10 x34 x9 x7 x22 x6 x0 x1 x2 : AV) (y : Bx) : Option (Ex × S) :=
  (pv y (binA Try.prog .lss 3 x16 (.v (Go.Value.int Go.IntKind.i64 8)))).bind fun r108 =>
  condA r108.1 ((callA E md_l04_DiskFlushed r108.2 11 [x7, x16]).bind fun r109 =>
  (pv r109.2 (tupA r109.1 0)).bind fun r110 =>
  (pv r110.2 (tupA r109.1 1)).bind fun r111 =>
  (allocA Try.prog r111.2 32).bind fun r112 =>
  (stA Try.prog 32 r112.2 r112.1 r110.1).bind fun r113 =>
  exitA (iter (headK ⟨[(20, (.v (Go.Value.int Go.IntKind.i64 0))), (19, (.v (Go.Value.bool false))), (18, r111.1), (17, r112.1), (108, r108.1), (16, x16), (75, x75), (14, x14), (55, x55), (11, x11), (53, x53), (10, x10), (34, x34), (9, x9), (7, x7), (22, x22), (6, x6), (0, x0), (1, x1), (2, x2)], r113.2⟩) (L_l04_DiskFlushed_4 E n n0) n ⟨[(20, (.v (Go.Value.int Go.IntKind.i64 0))), (19, (.v (Go.Value.bool false))), (18, r111.1), (17, r112.1), (108, r108.1), (16, x16), (75, x75), (14, x14), (55, x55), (11, x11), (53, x53), (10, x10), (34, x34), (9, x9), (7, x7), (22, x22), (6, x6), (0, x0), (1, x1), (2, x2)], r113.2⟩) (K_l04_DiskFlushed_4 E n n0) (X_l04_DiskFlushed_4 E n n0)) (some (.exit 6, ⟨[(108, r108.1), (16, x16), (75, x75), (14, x14), (55, x55), (11, x11), (53, x53), (10, x10), (34, x34), (9, x9), (7, x7), (22, x22), (6, x6), (0, x0), (1, x1), (2, x2)], r108.2⟩))
theorem L_l04_DiskFlushed_3_lit {E : FnA} {n n0 : Nat} {x16 x75 x14 x55 x11 x53 x10 x34 x9 x7 x22 x6 x0 x1 x2 : AV} {y : Bx} {Q : Ex → S → Prop} (h : Ends (B_l04_DiskFlushed_3 E n n0 x16 x75 x14 x55 x11 x53 x10 x34 x9 x7 x22 x6 x0 x1 x2 y) Q) : Ends (L_l04_DiskFlushed_3 E n n0 ⟨[(16, x16), (75, x75), (14, x14), (55, x55), (11, x11), (53, x53), (10, x10), (34, x34), (9, x9), (7, x7), (22, x22), (6, x6), (0, x0), (1, x1), (2, x2)], y⟩) Q := by
  rw [show L_l04_DiskFlushed_3 E n n0 ⟨[(16, x16), (75, x75), (14, x14), (55, x55), (11, x11), (53, x53), (10, x10), (34, x34), (9, x9), (7, x7), (22, x22), (6, x6), (0, x0), (1, x1), (2, x2)], y⟩ = B_l04_DiskFlushed_3 E n n0 x16 x75 x14 x55 x11 x53 x10 x34 x9 x7 x22 x6 x0 x1 x2 y by kernel_rfl]
  exact h
noncomputable def K_l04_DiskFlushed_3 (_E : FnA) (_n _n0 : Nat) (t : S) : Option (Ex × S) :=
  some (.ret, ⟨((6, (.v (Go.Value.bool true))) :: (prune kp_l04_DiskFlushed t.env)), t.bx⟩)
noncomputable def X_l04_DiskFlushed_3 (_E : FnA) (_n _n0 : Nat) (i : Nat) (t : S) : Option (Ex × S) :=
  if i = 6 then some (.ret, ⟨((6, (.v (Go.Value.bool true))) :: (prune kp_l04_DiskFlushed t.env)), t.bx⟩) else some (.exit i, ⟨t.env, t.bx⟩)
noncomputable def X_l04_DiskFlushed_3_0 (_E : FnA) (_n _n0 : Nat) (x108 x16 x75 x14 x55 x11 x53 x10 x34 x9 x7 x22 x6 x0 x1 x2 : AV) (y : Bx) : Option (Ex × S) :=
  some (.ret, ⟨[(6, (.v (Go.Value.bool true))), (108, x108), (16, x16), (75, x75), (14, x14), (55, x55), (11, x11), (53, x53), (10, x10), (34, x34), (9, x9), (7, x7), (22, x22), (6, x6), (0, x0), (1, x1), (2, x2)], y⟩)
theorem X_l04_DiskFlushed_3_0_lit {E : FnA} {n n0 : Nat} {x108 x16 x75 x14 x55 x11 x53 x10 x34 x9 x7 x22 x6 x0 x1 x2 : AV} {y : Bx} {Q : Ex → S → Prop} (h : Ends (X_l04_DiskFlushed_3_0 E n n0 x108 x16 x75 x14 x55 x11 x53 x10 x34 x9 x7 x22 x6 x0 x1 x2 y) Q) : Ends (X_l04_DiskFlushed_3 E n n0 6 ⟨[(108, x108), (16, x16), (75, x75), (14, x14), (55, x55), (11, x11), (53, x53), (10, x10), (34, x34), (9, x9), (7, x7), (22, x22), (6, x6), (0, x0), (1, x1), (2, x2)], y⟩) Q := by
  rw [show X_l04_DiskFlushed_3 E n n0 6 ⟨[(108, x108), (16, x16), (75, x75), (14, x14), (55, x55), (11, x11), (53, x53), (10, x10), (34, x34), (9, x9), (7, x7), (22, x22), (6, x6), (0, x0), (1, x1), (2, x2)], y⟩ = X_l04_DiskFlushed_3_0 E n n0 x108 x16 x75 x14 x55 x11 x53 x10 x34 x9 x7 x22 x6 x0 x1 x2 y by kernel_rfl]
  exact h
noncomputable def L_l04_DiskFlushed_2 (E : FnA) (_n n0 : Nat) (s : S) : Option (Ex × S) :=
  (pv s.bx (lenA Try.prog 22 (get s.env 1))).bind fun r84 =>
  (pv r84.2 (binA Try.prog .lss 3 (get s.env 14) r84.1)).bind fun r85 =>
  (gsel true r85.2 (some ((get s.env 14), r85.2)) r85.1).bind fun r86 =>
  (gsel true r86.2 (pv r86.2 (binA Try.prog .lss 3 r86.1 (.v (Go.Value.int Go.IntKind.i64 40)))) r85.1).bind fun r87 =>
  (pv r87.2 (pickA r85.1 r87.1 (.v (Go.Value.bool false)))).bind fun r88 =>
  condA r88.1 ((pv r88.2 (indexAddrA Try.prog 22 (get (prune kp_l04_DiskFlushed s.env) 1) (get (prune kp_l04_DiskFlushed s.env) 14))).bind fun r89 =>
  (pv r89.2 (fieldAddrA Try.prog 34 r89.1 1)).bind fun r90 =>
  (pv r90.2 (loadA Try.prog 3 r90.2 r90.1)).bind fun r91 =>
  (callA E md_l04_DiskFlushed r91.2 9 [r91.1, (.v (Go.Value.int Go.IntKind.i64 8))]).bind fun r92 =>
  (pv r92.2 (indexAddrA Try.prog 22 (get (prune kp_l04_DiskFlushed (prune kp_l04_DiskFlushed s.env)) 1) (get (prune kp_l04_DiskFlushed (prune kp_l04_DiskFlushed s.env)) 14))).bind fun r93 =>
  (pv r93.2 (fieldAddrA Try.prog 34 r93.1 2)).bind fun r94 =>
  (pv r94.2 (loadA Try.prog 32 r94.2 r94.1)).bind fun r95 =>
  (callA E md_l04_DiskFlushed r95.2 8 [(get (prune kp_l04_DiskFlushed (prune kp_l04_DiskFlushed s.env)) 7), r92.1, r95.1]).bind fun r96 =>
  (pv r96.2 (indexAddrA Try.prog 36 (get (prune kp_l04_DiskFlushed (prune kp_l04_DiskFlushed (prune kp_l04_DiskFlushed s.env))) 10) r92.1)).bind fun r97 =>
  (pv r97.2 (loadA Try.prog 35 r97.2 r97.1)).bind fun r98 =>
  (pv r98.2 (indexAddrA Try.prog 22 (get (prune kp_l04_DiskFlushed (prune kp_l04_DiskFlushed (prune kp_l04_DiskFlushed s.env))) 1) (get (prune kp_l04_DiskFlushed (prune kp_l04_DiskFlushed (prune kp_l04_DiskFlushed s.env))) 14))).bind fun r99 =>
  (pv r99.2 (fieldAddrA Try.prog 34 r99.1 2)).bind fun r100 =>
  (pv r100.2 (loadA Try.prog 32 r100.2 r100.1)).bind fun r101 =>
  (guardB (apartV (AV.bp (List.length r101.2) 0) r97.1 && true)).bind fun _ =>
  (buildSliceG Try.prog r101.2 35 1 [(0, r101.1)]).bind fun r102 =>
  (appA Try.prog n0 r102.2 35 r98.1 r102.1).bind fun r103 =>
  (guardB (freeA r98.1 r92.1 && (freeA r98.1 r92.1 && true))).bind fun _ =>
  (pv r103.2.2 (indexAddrA Try.prog 36 (get (mapE r103.2.1 (prune kp_l04_DiskFlushed (prune kp_l04_DiskFlushed (prune kp_l04_DiskFlushed s.env)))) 10) (r103.2.1 r92.1))).bind fun r104 =>
  (stA Try.prog 35 r104.2 r104.1 r103.1).bind fun r105 =>
  (pv r105.2 (binA Try.prog .add 3 (get (prune kp_l04_DiskFlushed (mapE r103.2.1 (prune kp_l04_DiskFlushed (prune kp_l04_DiskFlushed (prune kp_l04_DiskFlushed s.env))))) 14) (.v (Go.Value.int Go.IntKind.i64 1)))).bind fun r106 =>
  some (.normal, ⟨((14, r106.1) :: (15, (r103.2.1 r92.1)) :: (75, (r103.2.1 r88.1)) :: (prune kp_l04_DiskFlushed (prune kp_l04_DiskFlushed (mapE r103.2.1 (prune kp_l04_DiskFlushed (prune kp_l04_DiskFlushed (prune kp_l04_DiskFlushed s.env))))))), r106.2⟩)) (some (.exit 4, ⟨((75, r88.1) :: (prune kp_l04_DiskFlushed s.env)), r88.2⟩))
noncomputable def B_l04_DiskFlushed_2 (E : FnA) (_n n0 : Nat) (x14 x55 x11 x53 x10 x34 x9 x7 x22 x6 x0 x1 x2 : AV) (y : Bx) : Option (Ex × S) :=
  (pv y (lenA Try.prog 22 x1)).bind fun r61 =>
  (pv r61.2 (binA Try.prog .lss 3 x14 r61.1)).bind fun r62 =>
  (gsel true r62.2 (some (x14, r62.2)) r62.1).bind fun r63 =>
  (gsel true r63.2 (pv r63.2 (binA Try.prog .lss 3 r63.1 (.v (Go.Value.int Go.IntKind.i64 40)))) r62.1).bind fun r64 =>
  (pv r64.2 (pickA r62.1 r64.1 (.v (Go.Value.bool false)))).bind fun r65 =>
  condA r65.1 ((pv r65.2 (indexAddrA Try.prog 22 x1 x14)).bind fun r66 =>
  (pv r66.2 (fieldAddrA Try.prog 34 r66.1 1)).bind fun r67 =>
  (pv r67.2 (loadA Try.prog 3 r67.2 r67.1)).bind fun r68 =>
  (callA E md_l04_DiskFlushed r68.2 9 [r68.1, (.v (Go.Value.int Go.IntKind.i64 8))]).bind fun r69 =>
  (pv r69.2 (indexAddrA Try.prog 22 x1 x14)).bind fun r70 =>
  (pv r70.2 (fieldAddrA Try.prog 34 r70.1 2)).bind fun r71 =>
  (pv r71.2 (loadA Try.prog 32 r71.2 r71.1)).bind fun r72 =>
  (callA E md_l04_DiskFlushed r72.2 8 [x7, r69.1, r72.1]).bind fun r73 =>
  (pv r73.2 (indexAddrA Try.prog 36 x10 r69.1)).bind fun r74 =>
  (pv r74.2 (loadA Try.prog 35 r74.2 r74.1)).bind fun r75 =>
  (pv r75.2 (indexAddrA Try.prog 22 x1 x14)).bind fun r76 =>
  (pv r76.2 (fieldAddrA Try.prog 34 r76.1 2)).bind fun r77 =>
  (pv r77.2 (loadA Try.prog 32 r77.2 r77.1)).bind fun r78 =>
  (guardB (apartV (AV.bp (List.length r78.2) 0) r74.1 && true)).bind fun _ =>
  (buildSliceG Try.prog r78.2 35 1 [(0, r78.1)]).bind fun r79 =>
  (appA Try.prog n0 r79.2 35 r75.1 r79.1).bind fun r80 =>
  (guardB (freeA r75.1 r69.1 && (freeA r75.1 r69.1 && true))).bind fun _ =>
  (pv r80.2.2 (indexAddrA Try.prog 36 (r80.2.1 x10) (r80.2.1 r69.1))).bind fun r81 =>
  (stA Try.prog 35 r81.2 r81.1 r80.1).bind fun r82 =>
  (pv r82.2 (binA Try.prog .add 3 (r80.2.1 x14) (.v (Go.Value.int Go.IntKind.i64 1)))).bind fun r83 =>
  some (.normal, ⟨[(14, r83.1), (15, (r80.2.1 r69.1)), (75, (r80.2.1 r65.1)), (14, (r80.2.1 x14)), (55, (r80.2.1 x55)), (11, (r80.2.1 x11)), (53, (r80.2.1 x53)), (10, (r80.2.1 x10)), (34, (r80.2.1 x34)), (9, (r80.2.1 x9)), (7, (r80.2.1 x7)), (22, (r80.2.1 x22)), (6, (r80.2.1 x6)), (0, (r80.2.1 x0)), (1, (r80.2.1 x1)), (2, (r80.2.1 x2))], r83.2⟩)) (some (.exit 4, ⟨[(75, r65.1), (14, x14), (55, x55), (11, x11), (53, x53), (10, x10), (34, x34), (9, x9), (7, x7), (22, x22), (6, x6), (0, x0), (1, x1), (2, x2)], r65.2⟩))
theorem L_l04_DiskFlushed_2_lit {E : FnA} {n n0 : Nat} {x14 x55 x11 x53 x10 x34 x9 x7 x22 x6 x0 x1 x2 : AV} {y : Bx} {Q : Ex → S → Prop} (h : Ends (B_l04_DiskFlushed_2 E n n0 x14 x55 x11 x53 x10 x34 x9 x7 x22 x6 x0 x1 x2 y) Q) : Ends (L_l04_DiskFlushed_2 E n n0 ⟨[(14, x14), (55, x55), (11, x11), (53, x53), (10, x10), (34, x34), (9, x9), (7, x7), (22, x22), (6, x6), (0, x0), (1, x1), (2, x2)], y⟩) Q := by
  rw [show L_l04_DiskFlushed_2 E n n0 ⟨[(14, x14), (55, x55), (11, x11), (53, x53), (10, x10), (34, x34), (9, x9), (7, x7), (22, x22), (6, x6), (0, x0), (1, x1), (2, x2)], y⟩ = B_l04_DiskFlushed_2 E n n0 x14 x55 x11 x53 x10 x34 x9 x7 x22 x6 x0 x1 x2 y by kernel_rfl]
  exact h
noncomputable def K_l04_DiskFlushed_2 (E : FnA) (n n0 : Nat) (t : S) : Option (Ex × S) :=
  (callA E md_l04_DiskFlushed t.bx 12 [(get t.env 7), (get t.env 2)]).bind fun r179 =>
  exitA (iter (headK ⟨((16, (.v (Go.Value.int Go.IntKind.i64 0))) :: (prune kp_l04_DiskFlushed (prune kp_l04_DiskFlushed t.env))), r179.2⟩) (L_l04_DiskFlushed_3 E n n0) n ⟨((16, (.v (Go.Value.int Go.IntKind.i64 0))) :: (prune kp_l04_DiskFlushed (prune kp_l04_DiskFlushed t.env))), r179.2⟩) (K_l04_DiskFlushed_3 E n n0) (X_l04_DiskFlushed_3 E n n0)
noncomputable def X_l04_DiskFlushed_2 (E : FnA) (n n0 : Nat) (i : Nat) (t : S) : Option (Ex × S) :=
  if i = 4 then (callA E md_l04_DiskFlushed t.bx 12 [(get t.env 7), (get t.env 2)]).bind fun r107 =>
  exitA (iter (headK ⟨((16, (.v (Go.Value.int Go.IntKind.i64 0))) :: (prune kp_l04_DiskFlushed (prune kp_l04_DiskFlushed t.env))), r107.2⟩) (L_l04_DiskFlushed_3 E n n0) n ⟨((16, (.v (Go.Value.int Go.IntKind.i64 0))) :: (prune kp_l04_DiskFlushed (prune kp_l04_DiskFlushed t.env))), r107.2⟩) (K_l04_DiskFlushed_3 E n n0) (X_l04_DiskFlushed_3 E n n0) else some (.exit i, ⟨t.env, t.bx⟩)
noncomputable def X_l04_DiskFlushed_2_0 (E : FnA) (n n0 : Nat) (x75 x14 x55 x11 x53 x10 x34 x9 x7 x22 x6 x0 x1 x2 : AV) (y : Bx) : Option (Ex × S) :=
  (callA E md_l04_DiskFlushed y 12 [x7, x2]).bind fun r180 =>
  exitA (iter (headK ⟨[(16, (.v (Go.Value.int Go.IntKind.i64 0))), (75, x75), (14, x14), (55, x55), (11, x11), (53, x53), (10, x10), (34, x34), (9, x9), (7, x7), (22, x22), (6, x6), (0, x0), (1, x1), (2, x2)], r180.2⟩) (L_l04_DiskFlushed_3 E n n0) n ⟨[(16, (.v (Go.Value.int Go.IntKind.i64 0))), (75, x75), (14, x14), (55, x55), (11, x11), (53, x53), (10, x10), (34, x34), (9, x9), (7, x7), (22, x22), (6, x6), (0, x0), (1, x1), (2, x2)], r180.2⟩) (K_l04_DiskFlushed_3 E n n0) (X_l04_DiskFlushed_3 E n n0)
theorem X_l04_DiskFlushed_2_0_lit {E : FnA} {n n0 : Nat} {x75 x14 x55 x11 x53 x10 x34 x9 x7 x22 x6 x0 x1 x2 : AV} {y : Bx} {Q : Ex → S → Prop} (h : Ends (X_l04_DiskFlushed_2_0 E n n0 x75 x14 x55 x11 x53 x10 x34 x9 x7 x22 x6 x0 x1 x2 y) Q) : Ends (X_l04_DiskFlushed_2 E n n0 4 ⟨[(75, x75), (14, x14), (55, x55), (11, x11), (53, x53), (10, x10), (34, x34), (9, x9), (7, x7), (22, x22), (6, x6), (0, x0), (1, x1), (2, x2)], y⟩) Q := by
  rw [show X_l04_DiskFlushed_2 E n n0 4 ⟨[(75, x75), (14, x14), (55, x55), (11, x11), (53, x53), (10, x10), (34, x34), (9, x9), (7, x7), (22, x22), (6, x6), (0, x0), (1, x1), (2, x2)], y⟩ = X_l04_DiskFlushed_2_0 E n n0 x75 x14 x55 x11 x53 x10 x34 x9 x7 x22 x6 x0 x1 x2 y by kernel_rfl]
  exact h
noncomputable def L_l04_DiskFlushed_1 (E : FnA) (_n _n0 : Nat) (s : S) : Option (Ex × S) :=
  (pv s.bx (binA Try.prog .lss 3 (get s.env 11) (.v (Go.Value.int Go.IntKind.i64 8)))).bind fun r50 =>
  condA r50.1 ((callA E md_l04_DiskFlushed r50.2 11 [(get (prune kp_l04_DiskFlushed s.env) 7), (get (prune kp_l04_DiskFlushed s.env) 11)]).bind fun r51 =>
  (pv r51.2 (tupA r51.1 0)).bind fun r52 =>
  (pv r52.2 (tupA r51.1 1)).bind fun r53 =>
  (allocA Try.prog r53.2 32).bind fun r54 =>
  (stA Try.prog 32 r54.2 r54.1 r52.1).bind fun r55 =>
  (pv r55.2 (loadA Try.prog 32 r55.2 r54.1)).bind fun r56 =>
  (buildSliceG Try.prog r56.2 35 1 [(0, r56.1)]).bind fun r57 =>
  (pv r57.2 (indexAddrA Try.prog 36 (get (prune kp_l04_DiskFlushed (prune kp_l04_DiskFlushed s.env)) 10) (get (prune kp_l04_DiskFlushed (prune kp_l04_DiskFlushed s.env)) 11))).bind fun r58 =>
  (stA Try.prog 35 r58.2 r58.1 r57.1).bind fun r59 =>
  (pv r59.2 (binA Try.prog .add 3 (get (prune kp_l04_DiskFlushed (prune kp_l04_DiskFlushed (prune kp_l04_DiskFlushed s.env))) 11) (.v (Go.Value.int Go.IntKind.i64 1)))).bind fun r60 =>
  some (.normal, ⟨((11, r60.1) :: (12, r54.1) :: (55, r50.1) :: (prune kp_l04_DiskFlushed (prune kp_l04_DiskFlushed (prune kp_l04_DiskFlushed (prune kp_l04_DiskFlushed s.env))))), r60.2⟩)) (some (.exit 2, ⟨((55, r50.1) :: (prune kp_l04_DiskFlushed s.env)), r50.2⟩))
noncomputable def B_l04_DiskFlushed_1 (E : FnA) (_n _n0 : Nat) (x11 x53 x10 x34 x9 x7 x22 x6 x0 x1 x2 : AV) (y : Bx) : Option (Ex × S) :=
  (pv y (binA Try.prog .lss 3 x11 (.v (Go.Value.int Go.IntKind.i64 8)))).bind fun r39 =>
  condA r39.1 ((callA E md_l04_DiskFlushed r39.2 11 [x7, x11]).bind fun r40 =>
  (pv r40.2 (tupA r40.1 0)).bind fun r41 =>
  (pv r41.2 (tupA r40.1 1)).bind fun r42 =>
  (allocA Try.prog r42.2 32).bind fun r43 =>
  (stA Try.prog 32 r43.2 r43.1 r41.1).bind fun r44 =>
  (pv r44.2 (loadA Try.prog 32 r44.2 r43.1)).bind fun r45 =>
  (buildSliceG Try.prog r45.2 35 1 [(0, r45.1)]).bind fun r46 =>
  (pv r46.2 (indexAddrA Try.prog 36 x10 x11)).bind fun r47 =>
  (stA Try.prog 35 r47.2 r47.1 r46.1).bind fun r48 =>
  (pv r48.2 (binA Try.prog .add 3 x11 (.v (Go.Value.int Go.IntKind.i64 1)))).bind fun r49 =>
  some (.normal, ⟨[(11, r49.1), (12, r43.1), (55, r39.1), (11, x11), (53, x53), (10, x10), (34, x34), (9, x9), (7, x7), (22, x22), (6, x6), (0, x0), (1, x1), (2, x2)], r49.2⟩)) (some (.exit 2, ⟨[(55, r39.1), (11, x11), (53, x53), (10, x10), (34, x34), (9, x9), (7, x7), (22, x22), (6, x6), (0, x0), (1, x1), (2, x2)], r39.2⟩))
theorem L_l04_DiskFlushed_1_lit {E : FnA} {n n0 : Nat} {x11 x53 x10 x34 x9 x7 x22 x6 x0 x1 x2 : AV} {y : Bx} {Q : Ex → S → Prop} (h : Ends (B_l04_DiskFlushed_1 E n n0 x11 x53 x10 x34 x9 x7 x22 x6 x0 x1 x2 y) Q) : Ends (L_l04_DiskFlushed_1 E n n0 ⟨[(11, x11), (53, x53), (10, x10), (34, x34), (9, x9), (7, x7), (22, x22), (6, x6), (0, x0), (1, x1), (2, x2)], y⟩) Q := by
  rw [show L_l04_DiskFlushed_1 E n n0 ⟨[(11, x11), (53, x53), (10, x10), (34, x34), (9, x9), (7, x7), (22, x22), (6, x6), (0, x0), (1, x1), (2, x2)], y⟩ = B_l04_DiskFlushed_1 E n n0 x11 x53 x10 x34 x9 x7 x22 x6 x0 x1 x2 y by kernel_rfl]
  exact h
noncomputable def K_l04_DiskFlushed_1 (E : FnA) (n n0 : Nat) (t : S) : Option (Ex × S) :=
  exitA (iter (headK ⟨((14, (.v (Go.Value.int Go.IntKind.i64 0))) :: (prune kp_l04_DiskFlushed t.env)), t.bx⟩) (L_l04_DiskFlushed_2 E n n0) n ⟨((14, (.v (Go.Value.int Go.IntKind.i64 0))) :: (prune kp_l04_DiskFlushed t.env)), t.bx⟩) (K_l04_DiskFlushed_2 E n n0) (X_l04_DiskFlushed_2 E n n0)
noncomputable def X_l04_DiskFlushed_1 (E : FnA) (n n0 : Nat) (i : Nat) (t : S) : Option (Ex × S) :=
  if i = 2 then exitA (iter (headK ⟨((14, (.v (Go.Value.int Go.IntKind.i64 0))) :: (prune kp_l04_DiskFlushed t.env)), t.bx⟩) (L_l04_DiskFlushed_2 E n n0) n ⟨((14, (.v (Go.Value.int Go.IntKind.i64 0))) :: (prune kp_l04_DiskFlushed t.env)), t.bx⟩) (K_l04_DiskFlushed_2 E n n0) (X_l04_DiskFlushed_2 E n n0) else some (.exit i, ⟨t.env, t.bx⟩)
noncomputable def X_l04_DiskFlushed_1_0 (E : FnA) (n n0 : Nat) (x55 x11 x53 x10 x34 x9 x7 x22 x6 x0 x1 x2 : AV) (y : Bx) : Option (Ex × S) :=
  exitA (iter (headK ⟨[(14, (.v (Go.Value.int Go.IntKind.i64 0))), (55, x55), (11, x11), (53, x53), (10, x10), (34, x34), (9, x9), (7, x7), (22, x22), (6, x6), (0, x0), (1, x1), (2, x2)], y⟩) (L_l04_DiskFlushed_2 E n n0) n ⟨[(14, (.v (Go.Value.int Go.IntKind.i64 0))), (55, x55), (11, x11), (53, x53), (10, x10), (34, x34), (9, x9), (7, x7), (22, x22), (6, x6), (0, x0), (1, x1), (2, x2)], y⟩) (K_l04_DiskFlushed_2 E n n0) (X_l04_DiskFlushed_2 E n n0)
theorem X_l04_DiskFlushed_1_0_lit {E : FnA} {n n0 : Nat} {x55 x11 x53 x10 x34 x9 x7 x22 x6 x0 x1 x2 : AV} {y : Bx} {Q : Ex → S → Prop} (h : Ends (X_l04_DiskFlushed_1_0 E n n0 x55 x11 x53 x10 x34 x9 x7 x22 x6 x0 x1 x2 y) Q) : Ends (X_l04_DiskFlushed_1 E n n0 2 ⟨[(55, x55), (11, x11), (53, x53), (10, x10), (34, x34), (9, x9), (7, x7), (22, x22), (6, x6), (0, x0), (1, x1), (2, x2)], y⟩) Q := by
  rw [show X_l04_DiskFlushed_1 E n n0 2 ⟨[(55, x55), (11, x11), (53, x53), (10, x10), (34, x34), (9, x9), (7, x7), (22, x22), (6, x6), (0, x0), (1, x1), (2, x2)], y⟩ = X_l04_DiskFlushed_1_0 E n n0 x55 x11 x53 x10 x34 x9 x7 x22 x6 x0 x1 x2 y by kernel_rfl]
  exact h
noncomputable def L_l04_DiskFlushed_0 (E : FnA) (_n _n0 : Nat) (s : S) : Option (Ex × S) :=
  (pv s.bx (lenA Try.prog 22 (get s.env 0))).bind fun r20 =>
  (pv r20.2 (binA Try.prog .lss 3 (get s.env 9) r20.1)).bind fun r21 =>
  (gsel true r21.2 (some ((get s.env 9), r21.2)) r21.1).bind fun r22 =>
  (gsel true r22.2 (pv r22.2 (binA Try.prog .lss 3 r22.1 (.v (Go.Value.int Go.IntKind.i64 40)))) r21.1).bind fun r23 =>
  (pv r23.2 (pickA r21.1 r23.1 (.v (Go.Value.bool false)))).bind fun r24 =>
  condA r24.1 ((pv r24.2 (indexAddrA Try.prog 22 (get (prune kp_l04_DiskFlushed s.env) 0) (get (prune kp_l04_DiskFlushed s.env) 9))).bind fun r25 =>
  (pv r25.2 (fieldAddrA Try.prog 34 r25.1 1)).bind fun r26 =>
  (pv r26.2 (loadA Try.prog 3 r26.2 r26.1)).bind fun r27 =>
  (callA E md_l04_DiskFlushed r27.2 9 [r27.1, (.v (Go.Value.int Go.IntKind.i64 8))]).bind fun r28 =>
  (pv r28.2 (indexAddrA Try.prog 22 (get (prune kp_l04_DiskFlushed s.env) 0) (get (prune kp_l04_DiskFlushed s.env) 9))).bind fun r29 =>
  (pv r29.2 (fieldAddrA Try.prog 34 r29.1 2)).bind fun r30 =>
  (pv r30.2 (loadA Try.prog 32 r30.2 r30.1)).bind fun r31 =>
  (callA E md_l04_DiskFlushed r31.2 8 [(get (prune kp_l04_DiskFlushed s.env) 7), r28.1, r31.1]).bind fun r32 =>
  (pv r32.2 (binA Try.prog .add 3 (get (prune kp_l04_DiskFlushed (prune kp_l04_DiskFlushed s.env)) 9) (.v (Go.Value.int Go.IntKind.i64 1)))).bind fun r33 =>
  some (.normal, ⟨((9, r33.1) :: (34, r24.1) :: (prune kp_l04_DiskFlushed (prune kp_l04_DiskFlushed (prune kp_l04_DiskFlushed s.env)))), r33.2⟩)) (some (.exit 0, ⟨((34, r24.1) :: (prune kp_l04_DiskFlushed s.env)), r24.2⟩))
noncomputable def B_l04_DiskFlushed_0 (E : FnA) (_n _n0 : Nat) (x9 x7 x22 x6 x0 x1 x2 : AV) (y : Bx) : Option (Ex × S) :=
  (pv y (lenA Try.prog 22 x0)).bind fun r6 =>
  (pv r6.2 (binA Try.prog .lss 3 x9 r6.1)).bind fun r7 =>
  (gsel true r7.2 (some (x9, r7.2)) r7.1).bind fun r8 =>
  (gsel true r8.2 (pv r8.2 (binA Try.prog .lss 3 r8.1 (.v (Go.Value.int Go.IntKind.i64 40)))) r7.1).bind fun r9 =>
  (pv r9.2 (pickA r7.1 r9.1 (.v (Go.Value.bool false)))).bind fun r10 =>
  condA r10.1 ((pv r10.2 (indexAddrA Try.prog 22 x0 x9)).bind fun r11 =>
  (pv r11.2 (fieldAddrA Try.prog 34 r11.1 1)).bind fun r12 =>
  (pv r12.2 (loadA Try.prog 3 r12.2 r12.1)).bind fun r13 =>
  (callA E md_l04_DiskFlushed r13.2 9 [r13.1, (.v (Go.Value.int Go.IntKind.i64 8))]).bind fun r14 =>
  (pv r14.2 (indexAddrA Try.prog 22 x0 x9)).bind fun r15 =>
  (pv r15.2 (fieldAddrA Try.prog 34 r15.1 2)).bind fun r16 =>
  (pv r16.2 (loadA Try.prog 32 r16.2 r16.1)).bind fun r17 =>
  (callA E md_l04_DiskFlushed r17.2 8 [x7, r14.1, r17.1]).bind fun r18 =>
  (pv r18.2 (binA Try.prog .add 3 x9 (.v (Go.Value.int Go.IntKind.i64 1)))).bind fun r19 =>
  some (.normal, ⟨[(9, r19.1), (34, r10.1), (9, x9), (7, x7), (22, x22), (6, x6), (0, x0), (1, x1), (2, x2)], r19.2⟩)) (some (.exit 0, ⟨[(34, r10.1), (9, x9), (7, x7), (22, x22), (6, x6), (0, x0), (1, x1), (2, x2)], r10.2⟩))
theorem L_l04_DiskFlushed_0_lit {E : FnA} {n n0 : Nat} {x9 x7 x22 x6 x0 x1 x2 : AV} {y : Bx} {Q : Ex → S → Prop} (h : Ends (B_l04_DiskFlushed_0 E n n0 x9 x7 x22 x6 x0 x1 x2 y) Q) : Ends (L_l04_DiskFlushed_0 E n n0 ⟨[(9, x9), (7, x7), (22, x22), (6, x6), (0, x0), (1, x1), (2, x2)], y⟩) Q := by
  rw [show L_l04_DiskFlushed_0 E n n0 ⟨[(9, x9), (7, x7), (22, x22), (6, x6), (0, x0), (1, x1), (2, x2)], y⟩ = B_l04_DiskFlushed_0 E n n0 x9 x7 x22 x6 x0 x1 x2 y by kernel_rfl]
  exact h
noncomputable def K_l04_DiskFlushed_0 (E : FnA) (n n0 : Nat) (t : S) : Option (Ex × S) :=
  (pv t.bx (buildA Try.prog 36 [])).bind fun r181 =>
  (allocA Try.prog r181.2 36).bind fun r182 =>
  (stA Try.prog 36 r182.2 r182.1 r181.1).bind fun r183 =>
  (callA E md_l04_DiskFlushed r183.2 10 [(get (prune kp_l04_DiskFlushed t.env) 7)]).bind fun r184 =>
  (pv r184.2 (binA Try.prog .neq 26 r184.1 (.v (Go.Value.int Go.IntKind.i64 0)))).bind fun r185 =>
  condA r185.1 (some (.ret, ⟨((6, (.v (Go.Value.bool false))) :: (53, r185.1) :: (10, r182.1) :: (prune kp_l04_DiskFlushed (prune kp_l04_DiskFlushed (prune kp_l04_DiskFlushed t.env)))), r185.2⟩)) (exitA (iter (headK ⟨((11, (.v (Go.Value.int Go.IntKind.i64 0))) :: (53, r185.1) :: (10, r182.1) :: (prune kp_l04_DiskFlushed (prune kp_l04_DiskFlushed (prune kp_l04_DiskFlushed t.env)))), r185.2⟩) (L_l04_DiskFlushed_1 E n n0) n ⟨((11, (.v (Go.Value.int Go.IntKind.i64 0))) :: (53, r185.1) :: (10, r182.1) :: (prune kp_l04_DiskFlushed (prune kp_l04_DiskFlushed (prune kp_l04_DiskFlushed t.env)))), r185.2⟩) (K_l04_DiskFlushed_1 E n n0) (X_l04_DiskFlushed_1 E n n0))
noncomputable def X_l04_DiskFlushed_0 (E : FnA) (n n0 : Nat) (i : Nat) (t : S) : Option (Ex × S) :=
  if i = 0 then (pv t.bx (buildA Try.prog 36 [])).bind fun r34 =>
  (allocA Try.prog r34.2 36).bind fun r35 =>
  (stA Try.prog 36 r35.2 r35.1 r34.1).bind fun r36 =>
  (callA E md_l04_DiskFlushed r36.2 10 [(get (prune kp_l04_DiskFlushed t.env) 7)]).bind fun r37 =>
  (pv r37.2 (binA Try.prog .neq 26 r37.1 (.v (Go.Value.int Go.IntKind.i64 0)))).bind fun r38 =>
  condA r38.1 (some (.ret, ⟨((6, (.v (Go.Value.bool false))) :: (53, r38.1) :: (10, r35.1) :: (prune kp_l04_DiskFlushed (prune kp_l04_DiskFlushed (prune kp_l04_DiskFlushed t.env)))), r38.2⟩)) (exitA (iter (headK ⟨((11, (.v (Go.Value.int Go.IntKind.i64 0))) :: (53, r38.1) :: (10, r35.1) :: (prune kp_l04_DiskFlushed (prune kp_l04_DiskFlushed (prune kp_l04_DiskFlushed t.env)))), r38.2⟩) (L_l04_DiskFlushed_1 E n n0) n ⟨((11, (.v (Go.Value.int Go.IntKind.i64 0))) :: (53, r38.1) :: (10, r35.1) :: (prune kp_l04_DiskFlushed (prune kp_l04_DiskFlushed (prune kp_l04_DiskFlushed t.env)))), r38.2⟩) (K_l04_DiskFlushed_1 E n n0) (X_l04_DiskFlushed_1 E n n0)) else some (.exit i, ⟨t.env, t.bx⟩)
noncomputable def X_l04_DiskFlushed_0_0 (E : FnA) (n n0 : Nat) (x34 x9 x7 x22 x6 x0 x1 x2 : AV) (y : Bx) : Option (Ex × S) :=
  (pv y (buildA Try.prog 36 [])).bind fun r186 =>
  (allocA Try.prog r186.2 36).bind fun r187 =>
  (stA Try.prog 36 r187.2 r187.1 r186.1).bind fun r188 =>
  (callA E md_l04_DiskFlushed r188.2 10 [x7]).bind fun r189 =>
  (pv r189.2 (binA Try.prog .neq 26 r189.1 (.v (Go.Value.int Go.IntKind.i64 0)))).bind fun r190 =>
  condA r190.1 (some (.ret, ⟨[(6, (.v (Go.Value.bool false))), (53, r190.1), (10, r187.1), (34, x34), (9, x9), (7, x7), (22, x22), (6, x6), (0, x0), (1, x1), (2, x2)], r190.2⟩)) (exitA (iter (headK ⟨[(11, (.v (Go.Value.int Go.IntKind.i64 0))), (53, r190.1), (10, r187.1), (34, x34), (9, x9), (7, x7), (22, x22), (6, x6), (0, x0), (1, x1), (2, x2)], r190.2⟩) (L_l04_DiskFlushed_1 E n n0) n ⟨[(11, (.v (Go.Value.int Go.IntKind.i64 0))), (53, r190.1), (10, r187.1), (34, x34), (9, x9), (7, x7), (22, x22), (6, x6), (0, x0), (1, x1), (2, x2)], r190.2⟩) (K_l04_DiskFlushed_1 E n n0) (X_l04_DiskFlushed_1 E n n0))
theorem X_l04_DiskFlushed_0_0_lit {E : FnA} {n n0 : Nat} {x34 x9 x7 x22 x6 x0 x1 x2 : AV} {y : Bx} {Q : Ex → S → Prop} (h : Ends (X_l04_DiskFlushed_0_0 E n n0 x34 x9 x7 x22 x6 x0 x1 x2 y) Q) : Ends (X_l04_DiskFlushed_0 E n n0 0 ⟨[(34, x34), (9, x9), (7, x7), (22, x22), (6, x6), (0, x0), (1, x1), (2, x2)], y⟩) Q := by
  rw [show X_l04_DiskFlushed_0 E n n0 0 ⟨[(34, x34), (9, x9), (7, x7), (22, x22), (6, x6), (0, x0), (1, x1), (2, x2)], y⟩ = X_l04_DiskFlushed_0_0 E n n0 x34 x9 x7 x22 x6 x0 x1 x2 y by kernel_rfl]
  exact h
noncomputable def F_l04_DiskFlushed (E : FnA) (n n0 : Nat) (a0 a1 a2 : AV) (bx : Bx) : Option (Ex × S) :=
  (callA E md_l04_DiskFlushed bx 6 []).bind fun r1 =>
  (pv r1.2 (unA .not r1.1)).bind fun r2 =>
  condA r2.1 (some (.ret, ⟨[(6, (.v (Go.Value.bool false))), (22, r2.1), (6, (.v (Go.Value.bool false))), (0, a0), (1, a1), (2, a2)], r2.2⟩)) ((callA E md_l04_DiskFlushed r2.2 7 [(.v (Go.Value.int Go.IntKind.i64 8)), (.v (Go.Value.pointer none))]).bind fun r3 =>
  (pv r3.2 (tupA r3.1 0)).bind fun r4 =>
  (pv r4.2 (tupA r3.1 1)).bind fun r5 =>
  exitA (iter (headK ⟨[(9, (.v (Go.Value.int Go.IntKind.i64 0))), (7, r4.1), (22, r2.1), (6, (.v (Go.Value.bool false))), (0, a0), (1, a1), (2, a2)], r5.2⟩) (L_l04_DiskFlushed_0 E n n0) n ⟨[(9, (.v (Go.Value.int Go.IntKind.i64 0))), (7, r4.1), (22, r2.1), (6, (.v (Go.Value.bool false))), (0, a0), (1, a1), (2, a2)], r5.2⟩) (K_l04_DiskFlushed_0 E n n0) (X_l04_DiskFlushed_0 E n n0))
theorem c_l04_DiskFlushed_eq : Try.f3.body = some c_l04_DiskFlushed := by kernel_rfl
theorem d_l04_DiskFlushed : drawsOk Try.prog md_l04_DiskFlushed c_l04_DiskFlushed = true := by kernel_rfl
theorem F_l04_DiskFlushed_eq (E : FnA) (n n0 : Nat) (a0 a1 a2 : AV) (bx : Bx) : evK Try.prog md_l04_DiskFlushed E 148 kp_l04_DiskFlushed n n0 c_l04_DiskFlushed ⟨[(0, a0), (1, a1), (2, a2)], bx⟩ (fun s => some (.normal, s)) (fun i s => some (.exit i, s)) = F_l04_DiskFlushed E n n0 a0 a1 a2 bx := by kernel_rfl

theorem E_l04_DiskFlushed (n : Nat) (a0 a1 a2 : AV) (bx : Bx) : evFn cx0 ext0 (n + 1) 3 [a0, a1, a2] bx = fin Try.prog [.tmp 6] (F_l04_DiskFlushed (evFn cx0 ext0 n) n bx.length a0 a1 a2 bx) := by
  rw [evFn_eq2 (cx := cx0) (c := c_l04_DiskFlushed) rfl Try.func3 c_l04_DiskFlushed_eq (of_decide_eq_true (by kernel_rfl)) d_l04_DiskFlushed (of_decide_eq_true (by kernel_rfl))]
  exact congrArg (fin Try.prog [.tmp 6]) (F_l04_DiskFlushed_eq (evFn cx0 ext0 n) n bx.length a0 a1 a2 bx)

/-- scupper/scupperbase.Among -/
def kp_base_Among : Option (List Nat) := some [0, 1, 4, 6]
noncomputable def c_base_Among : Code := Try.f9.body.getD .skip
noncomputable def F_base_Among (_E : FnA) (_n _n0 : Nat) (a0 a1 : AV) (bx : Bx) : Option (Ex × S) :=
  (pv bx (binA Try.prog .lss 3 a1 (.v (Go.Value.int Go.IntKind.i64 1)))).bind fun r1 =>
  condA r1.1 (some (.ret, ⟨[(4, (.v (Go.Value.int Go.IntKind.i64 0))), (6, r1.1), (4, (.v (Go.Value.int Go.IntKind.i64 0))), (0, a0), (1, a1)], r1.2⟩)) ((convA Try.prog r1.2 3 65 a0).bind fun r2 =>
  (convA Try.prog r2.2 3 65 a1).bind fun r3 =>
  (pv r3.2 (binA Try.prog .rem 65 r2.1 r3.1)).bind fun r4 =>
  (convA Try.prog r4.2 65 3 r4.1).bind fun r5 =>
  some (.ret, ⟨[(4, r5.1), (6, r1.1), (4, (.v (Go.Value.int Go.IntKind.i64 0))), (0, a0), (1, a1)], r5.2⟩))
theorem c_base_Among_eq : Try.f9.body = some c_base_Among := by kernel_rfl
theorem d_base_Among : drawsOk Try.prog md0 c_base_Among = true := by kernel_rfl
theorem F_base_Among_eq (E : FnA) (n n0 : Nat) (a0 a1 : AV) (bx : Bx) : evK Try.prog md0 E 13 kp_base_Among n n0 c_base_Among ⟨[(0, a0), (1, a1)], bx⟩ (fun s => some (.normal, s)) (fun i s => some (.exit i, s)) = F_base_Among E n n0 a0 a1 bx := by kernel_rfl

theorem E_base_Among (n : Nat) (a0 a1 : AV) (bx : Bx) : evFn cx0 ext0 (n + 1) 9 [a0, a1] bx = fin Try.prog [.tmp 4] (F_base_Among (evFn cx0 ext0 n) n bx.length a0 a1 bx) := by
  rw [evFn_eq2 (cx := cx0) (c := c_base_Among) rfl Try.func9 c_base_Among_eq (of_decide_eq_true (by kernel_rfl)) d_base_Among (of_decide_eq_true (by kernel_rfl))]
  exact congrArg (fin Try.prog [.tmp 4]) (F_base_Among_eq (evFn cx0 ext0 n) n bx.length a0 a1 bx)

/-- scupper/scupperlaw04.DiskPlays -/
def kp_l04_DiskPlays : Option (List Nat) := some [1000000, 0, 1, 4, 5, 6, 7, 8, 9, 10, 11, 12, 13, 14, 15, 16, 17, 18, 42, 54, 94, 103, 128, 151, 173]
noncomputable def c_l04_DiskPlays : Code := Try.f5.body.getD .skip
noncomputable def L_l04_DiskPlays_1 (E : FnA) (_n _n0 : Nat) (s : S) : Option (Ex × S) :=
  (pv s.bx (nilA (get s.env 9))).bind fun r113 =>
  (pv r113.2 (fieldAddrA Try.prog 57 r113.1 1)).bind fun r114 =>
  (pv r114.2 (loadA Try.prog 35 r114.2 r114.1)).bind fun r115 =>
  (pv r115.2 (lenA Try.prog 35 r115.1)).bind fun r116 =>
  (pv r116.2 (minL false r116.1 [(.v (Go.Value.int Go.IntKind.i64 12))])).bind fun r117 =>
  (pv r117.2 (binA Try.prog .add 3 r117.1 (.v (Go.Value.int Go.IntKind.i64 1)))).bind fun r118 =>
  (pv r118.2 (binA Try.prog .lss 3 (get s.env 12) r118.1)).bind fun r119 =>
  condA r119.1 ((callA E md_l04_DiskPlays r119.2 11 [(get (prune kp_l04_DiskPlays s.env) 7), (get (prune kp_l04_DiskPlays s.env) 12)]).bind fun r120 =>
  (pv r120.2 (tupA r120.1 0)).bind fun r121 =>
  (pv r121.2 (tupA r120.1 1)).bind fun r122 =>
  (allocA Try.prog r122.2 32).bind fun r123 =>
  (stA Try.prog 32 r123.2 r123.1 r121.1).bind fun r124 =>
  (callA E md_l04_DiskPlays r124.2 24 [(get (prune kp_l04_DiskPlays (prune kp_l04_DiskPlays s.env)) 9), (get (prune kp_l04_DiskPlays (prune kp_l04_DiskPlays s.env)) 12)]).bind fun r125 =>
  (pv r125.2 (tupA r125.1 0)).bind fun r126 =>
  (pv r126.2 (tupA r125.1 1)).bind fun r127 =>
  (allocA Try.prog r127.2 32).bind fun r128 =>
  (stA Try.prog 32 r128.2 r128.1 r126.1).bind fun r129 =>
  (pv r129.2 (binA Try.prog .geq 3 (get (prune kp_l04_DiskPlays (prune kp_l04_DiskPlays (prune kp_l04_DiskPlays (prune kp_l04_DiskPlays s.env)))) 12) (.v (Go.Value.int Go.IntKind.i64 0)))).bind fun r130 =>
  (gsel true r130.2 (some ((get (prune kp_l04_DiskPlays (prune kp_l04_DiskPlays (prune kp_l04_DiskPlays (prune kp_l04_DiskPlays s.env)))) 12), r130.2)) r130.1).bind fun r131 =>
  (gsel true r131.2 (some ((get (prune kp_l04_DiskPlays (prune kp_l04_DiskPlays (prune kp_l04_DiskPlays (prune kp_l04_DiskPlays s.env)))) 9), r131.2)) r130.1).bind fun r132 =>
  (gsel true r132.2 (pv r132.2 (nilA r132.1)) r130.1).bind fun r133 =>
  (gsel true r133.2 (pv r133.2 (fieldAddrA Try.prog 57 r133.1 2)) r130.1).bind fun r134 =>
  (gsel true r134.2 (pv r134.2 (loadA Try.prog 55 r134.2 r134.1)) r130.1).bind fun r135 =>
  (gsel true r135.2 (pv r135.2 (lenA Try.prog 55 r135.1)) r130.1).bind fun r136 =>
  (gsel true r136.2 (pv r136.2 (binA Try.prog .lss 3 r131.1 r136.1)) r130.1).bind fun r137 =>
  (pv r137.2 (pickA r130.1 r137.1 (.v (Go.Value.bool false)))).bind fun r138 =>
  condA r138.1 ((pv r138.2 (nilA (get (prune kp_l04_DiskPlays (prune kp_l04_DiskPlays (prune kp_l04_DiskPlays (prune kp_l04_DiskPlays (prune kp_l04_DiskPlays s.env))))) 9))).bind fun r139 =>
  (pv r139.2 (fieldAddrA Try.prog 57 r139.1 2)).bind fun r140 =>
  (pv r140.2 (loadA Try.prog 55 r140.2 r140.1)).bind fun r141 =>
  (pv r141.2 (indexAddrA Try.prog 55 r141.1 (get (prune kp_l04_DiskPlays (prune kp_l04_DiskPlays (prune kp_l04_DiskPlays (prune kp_l04_DiskPlays (prune kp_l04_DiskPlays s.env))))) 12))).bind fun r142 =>
  (pv r142.2 (loadA Try.prog 35 r142.2 r142.1)).bind fun r143 =>
  (pv r143.2 (lenA Try.prog 35 r143.1)).bind fun r144 =>
  (pv r144.2 (loadA Try.prog 32 r144.2 r123.1)).bind fun r145 =>
  (pv r145.2 (loadA Try.prog 32 r145.2 r128.1)).bind fun r146 =>
  (pv r146.2 (binA Try.prog .neq 32 r145.1 r146.1)).bind fun r147 =>
  (gsel false r147.2 (some (r122.1, r147.2)) r147.1).bind fun r148 =>
  (gsel false r148.2 (some (r127.1, r148.2)) r147.1).bind fun r149 =>
  (gsel false r149.2 (pv r149.2 (binA Try.prog .neq 26 r148.1 r149.1)) r147.1).bind fun r150 =>
  (pv r150.2 (pickA r147.1 (.v (Go.Value.bool true)) r150.1)).bind fun r151 =>
  (gsel false r151.2 (some ((get (prune kp_l04_DiskPlays (prune kp_l04_DiskPlays (prune kp_l04_DiskPlays (prune kp_l04_DiskPlays (prune kp_l04_DiskPlays (prune kp_l04_DiskPlays s.env)))))) 7), r151.2)) r151.1).bind fun r152 =>
  (gsel false r152.2 (some ((get (prune kp_l04_DiskPlays (prune kp_l04_DiskPlays (prune kp_l04_DiskPlays (prune kp_l04_DiskPlays (prune kp_l04_DiskPlays (prune kp_l04_DiskPlays s.env)))))) 12), r152.2)) r151.1).bind fun r153 =>
  (gsel false r153.2 (callA E md_l04_DiskPlays r153.2 13 [r152.1, r153.1]) r151.1).bind fun r154 =>
  (gsel false r154.2 (some (r144.1, r154.2)) r151.1).bind fun r155 =>
  (gsel false r155.2 (pv r155.2 (binA Try.prog .neq 3 r154.1 r155.1)) r151.1).bind fun r156 =>
  (pv r156.2 (pickA r151.1 (.v (Go.Value.bool true)) r156.1)).bind fun r157 =>
  condA r157.1 (some (.ret, ⟨((4, (.v (Go.Value.bool false))) :: (151, r157.1) :: (17, r144.1) :: (128, r138.1) :: (17, (.v (Go.Value.int Go.IntKind.i64 0))) :: (16, r127.1) :: (15, r128.1) :: (14, r122.1) :: (13, r123.1) :: (103, r119.1) :: (prune kp_l04_DiskPlays (prune kp_l04_DiskPlays (prune kp_l04_DiskPlays (prune kp_l04_DiskPlays (prune kp_l04_DiskPlays (prune kp_l04_DiskPlays (prune kp_l04_DiskPlays (prune kp_l04_DiskPlays s.env))))))))), r157.2⟩)) ((pv r157.2 (binA Try.prog .add 3 (get (prune kp_l04_DiskPlays (prune kp_l04_DiskPlays (prune kp_l04_DiskPlays (prune kp_l04_DiskPlays (prune kp_l04_DiskPlays (prune kp_l04_DiskPlays (prune kp_l04_DiskPlays s.env))))))) 12) (.v (Go.Value.int Go.IntKind.i64 1)))).bind fun r158 =>
  some (.normal, ⟨((12, r158.1) :: (151, r157.1) :: (17, r144.1) :: (128, r138.1) :: (17, (.v (Go.Value.int Go.IntKind.i64 0))) :: (16, r127.1) :: (15, r128.1) :: (14, r122.1) :: (13, r123.1) :: (103, r119.1) :: (prune kp_l04_DiskPlays (prune kp_l04_DiskPlays (prune kp_l04_DiskPlays (prune kp_l04_DiskPlays (prune kp_l04_DiskPlays (prune kp_l04_DiskPlays (prune kp_l04_DiskPlays (prune kp_l04_DiskPlays s.env))))))))), r158.2⟩))) ((pv r138.2 (loadA Try.prog 32 r138.2 r123.1)).bind fun r159 =>
  (pv r159.2 (loadA Try.prog 32 r159.2 r128.1)).bind fun r160 =>
  (pv r160.2 (binA Try.prog .neq 32 r159.1 r160.1)).bind fun r161 =>
  (gsel false r161.2 (some (r122.1, r161.2)) r161.1).bind fun r162 =>
  (gsel false r162.2 (some (r127.1, r162.2)) r161.1).bind fun r163 =>
  (gsel false r163.2 (pv r163.2 (binA Try.prog .neq 26 r162.1 r163.1)) r161.1).bind fun r164 =>
  (pv r164.2 (pickA r161.1 (.v (Go.Value.bool true)) r164.1)).bind fun r165 =>
  (gsel false r165.2 (some ((get (prune kp_l04_DiskPlays (prune kp_l04_DiskPlays (prune kp_l04_DiskPlays (prune kp_l04_DiskPlays (prune kp_l04_DiskPlays s.env))))) 7), r165.2)) r165.1).bind fun r166 =>
  (gsel false r166.2 (some ((get (prune kp_l04_DiskPlays (prune kp_l04_DiskPlays (prune kp_l04_DiskPlays (prune kp_l04_DiskPlays (prune kp_l04_DiskPlays s.env))))) 12), r166.2)) r165.1).bind fun r167 =>
  (gsel false r167.2 (callA E md_l04_DiskPlays r167.2 13 [r166.1, r167.1]) r165.1).bind fun r168 =>
  (gsel false r168.2 (some ((.v (Go.Value.int Go.IntKind.i64 0)), r168.2)) r165.1).bind fun r169 =>
  (gsel false r169.2 (pv r169.2 (binA Try.prog .neq 3 r168.1 r169.1)) r165.1).bind fun r170 =>
  (pv r170.2 (pickA r165.1 (.v (Go.Value.bool true)) r170.1)).bind fun r171 =>
  condA r171.1 (some (.ret, ⟨((4, (.v (Go.Value.bool false))) :: (151, r171.1) :: (128, r138.1) :: (17, (.v (Go.Value.int Go.IntKind.i64 0))) :: (16, r127.1) :: (15, r128.1) :: (14, r122.1) :: (13, r123.1) :: (103, r119.1) :: (prune kp_l04_DiskPlays (prune kp_l04_DiskPlays (prune kp_l04_DiskPlays (prune kp_l04_DiskPlays (prune kp_l04_DiskPlays (prune kp_l04_DiskPlays (prune kp_l04_DiskPlays s.env)))))))), r171.2⟩)) ((pv r171.2 (binA Try.prog .add 3 (get (prune kp_l04_DiskPlays (prune kp_l04_DiskPlays (prune kp_l04_DiskPlays (prune kp_l04_DiskPlays (prune kp_l04_DiskPlays (prune kp_l04_DiskPlays s.env)))))) 12) (.v (Go.Value.int Go.IntKind.i64 1)))).bind fun r172 =>
  some (.normal, ⟨((12, r172.1) :: (151, r171.1) :: (128, r138.1) :: (17, (.v (Go.Value.int Go.IntKind.i64 0))) :: (16, r127.1) :: (15, r128.1) :: (14, r122.1) :: (13, r123.1) :: (103, r119.1) :: (prune kp_l04_DiskPlays (prune kp_l04_DiskPlays (prune kp_l04_DiskPlays (prune kp_l04_DiskPlays (prune kp_l04_DiskPlays (prune kp_l04_DiskPlays (prune kp_l04_DiskPlays s.env)))))))), r172.2⟩)))) (some (.exit 2, ⟨((103, r119.1) :: (prune kp_l04_DiskPlays s.env)), r119.2⟩))
noncomputable def B_l04_DiskPlays_1 (E : FnA) (_n _n0 : Nat) (x12 x94 x54 x11 x42 x10 x9 x8 x7 x6 x5 x4 x0 x1 : AV) (y : Bx) : Option (Ex × S) :=
  (pv y (nilA x9)).bind fun r53 =>
  (pv r53.2 (fieldAddrA Try.prog 57 r53.1 1)).bind fun r54 =>
  (pv r54.2 (loadA Try.prog 35 r54.2 r54.1)).bind fun r55 =>
  (pv r55.2 (lenA Try.prog 35 r55.1)).bind fun r56 =>
  (pv r56.2 (minL false r56.1 [(.v (Go.Value.int Go.IntKind.i64 12))])).bind fun r57 =>
  (pv r57.2 (binA Try.prog .add 3 r57.1 (.v (Go.Value.int Go.IntKind.i64 1)))).bind fun r58 =>
  (pv r58.2 (binA Try.prog .lss 3 x12 r58.1)).bind fun r59 =>
  condA r59.1 ((callA E md_l04_DiskPlays r59.2 11 [x7, x12]).bind fun r60 =>
  (pv r60.2 (tupA r60.1 0)).bind fun r61 =>
  (pv r61.2 (tupA r60.1 1)).bind fun r62 =>
  (allocA Try.prog r62.2 32).bind fun r63 =>
  (stA Try.prog 32 r63.2 r63.1 r61.1).bind fun r64 =>
  (callA E md_l04_DiskPlays r64.2 24 [x9, x12]).bind fun r65 =>
  (pv r65.2 (tupA r65.1 0)).bind fun r66 =>
  (pv r66.2 (tupA r65.1 1)).bind fun r67 =>
  (allocA Try.prog r67.2 32).bind fun r68 =>
  (stA Try.prog 32 r68.2 r68.1 r66.1).bind fun r69 =>
  (pv r69.2 (binA Try.prog .geq 3 x12 (.v (Go.Value.int Go.IntKind.i64 0)))).bind fun r70 =>
  (gsel true r70.2 (some (x12, r70.2)) r70.1).bind fun r71 =>
  (gsel true r71.2 (some (x9, r71.2)) r70.1).bind fun r72 =>
  (gsel true r72.2 (pv r72.2 (nilA r72.1)) r70.1).bind fun r73 =>
  (gsel true r73.2 (pv r73.2 (fieldAddrA Try.prog 57 r73.1 2)) r70.1).bind fun r74 =>
  (gsel true r74.2 (pv r74.2 (loadA Try.prog 55 r74.2 r74.1)) r70.1).bind fun r75 =>
  (gsel true r75.2 (pv r75.2 (lenA Try.prog 55 r75.1)) r70.1).bind fun r76 =>
  (gsel true r76.2 (pv r76.2 (binA Try.prog .lss 3 r71.1 r76.1)) r70.1).bind fun r77 =>
  (pv r77.2 (pickA r70.1 r77.1 (.v (Go.Value.bool false)))).bind fun r78 =>
  condA r78.1 ((pv r78.2 (nilA x9)).bind fun r79 =>
  (pv r79.2 (fieldAddrA Try.prog 57 r79.1 2)).bind fun r80 =>
  (pv r80.2 (loadA Try.prog 55 r80.2 r80.1)).bind fun r81 =>
  (pv r81.2 (indexAddrA Try.prog 55 r81.1 x12)).bind fun r82 =>
  (pv r82.2 (loadA Try.prog 35 r82.2 r82.1)).bind fun r83 =>
  (pv r83.2 (lenA Try.prog 35 r83.1)).bind fun r84 =>
  (pv r84.2 (loadA Try.prog 32 r84.2 r63.1)).bind fun r85 =>
  (pv r85.2 (loadA Try.prog 32 r85.2 r68.1)).bind fun r86 =>
  (pv r86.2 (binA Try.prog .neq 32 r85.1 r86.1)).bind fun r87 =>
  (gsel false r87.2 (some (r62.1, r87.2)) r87.1).bind fun r88 =>
  (gsel false r88.2 (some (r67.1, r88.2)) r87.1).bind fun r89 =>
  (gsel false r89.2 (pv r89.2 (binA Try.prog .neq 26 r88.1 r89.1)) r87.1).bind fun r90 =>
  (pv r90.2 (pickA r87.1 (.v (Go.Value.bool true)) r90.1)).bind fun r91 =>
  (gsel false r91.2 (some (x7, r91.2)) r91.1).bind fun r92 =>
  (gsel false r92.2 (some (x12, r92.2)) r91.1).bind fun r93 =>
  (gsel false r93.2 (callA E md_l04_DiskPlays r93.2 13 [r92.1, r93.1]) r91.1).bind fun r94 =>
  (gsel false r94.2 (some (r84.1, r94.2)) r91.1).bind fun r95 =>
  (gsel false r95.2 (pv r95.2 (binA Try.prog .neq 3 r94.1 r95.1)) r91.1).bind fun r96 =>
  (pv r96.2 (pickA r91.1 (.v (Go.Value.bool true)) r96.1)).bind fun r97 =>
  condA r97.1 (some (.ret, ⟨[(4, (.v (Go.Value.bool false))), (151, r97.1), (17, r84.1), (128, r78.1), (17, (.v (Go.Value.int Go.IntKind.i64 0))), (16, r67.1), (15, r68.1), (14, r62.1), (13, r63.1), (103, r59.1), (12, x12), (94, x94), (54, x54), (11, x11), (42, x42), (10, x10), (9, x9), (8, x8), (7, x7), (6, x6), (5, x5), (4, x4), (0, x0), (1, x1)], r97.2⟩)) ((pv r97.2 (binA Try.prog .add 3 x12 (.v (Go.Value.int Go.IntKind.i64 1)))).bind fun r98 =>
  some (.normal, ⟨[(12, r98.1), (151, r97.1), (17, r84.1), (128, r78.1), (17, (.v (Go.Value.int Go.IntKind.i64 0))), (16, r67.1), (15, r68.1), (14, r62.1), (13, r63.1), (103, r59.1), (12, x12), (94, x94), (54, x54), (11, x11), (42, x42), (10, x10), (9, x9), (8, x8), (7, x7), (6, x6), (5, x5), (4, x4), (0, x0), (1, x1)], r98.2⟩))) ((pv r78.2 (loadA Try.prog 32 r78.2 r63.1)).bind fun r99 =>
  (pv r99.2 (loadA Try.prog 32 r99.2 r68.1)).bind fun r100 =>
  (pv r100.2 (binA Try.prog .neq 32 r99.1 r100.1)).bind fun r101 =>
  (gsel false r101.2 (some (r62.1, r101.2)) r101.1).bind fun r102 =>
  (gsel false r102.2 (some (r67.1, r102.2)) r101.1).bind fun r103 =>
  (gsel false r103.2 (pv r103.2 (binA Try.prog .neq 26 r102.1 r103.1)) r101.1).bind fun r104 =>
  (pv r104.2 (pickA r101.1 (.v (Go.Value.bool true)) r104.1)).bind fun r105 =>
  (gsel false r105.2 (some (x7, r105.2)) r105.1).bind fun r106 =>
  (gsel false r106.2 (some (x12, r106.2)) r105.1).bind fun r107 =>
  (gsel false r107.2 (callA E md_l04_DiskPlays r107.2 13 [r106.1, r107.1]) r105.1).bind fun r108 =>
  (gsel false r108.2 (some ((.v (Go.Value.int Go.IntKind.i64 0)), r108.2)) r105.1).bind fun r109 =>
  (gsel false r109.2 (pv r109.2 (binA Try.prog .neq 3 r108.1 r109.1)) r105.1).bind fun r110 =>
  (pv r110.2 (pickA r105.1 (.v (Go.Value.bool true)) r110.1)).bind fun r111 =>
  condA r111.1 (some (.ret, ⟨[(4, (.v (Go.Value.bool false))), (151, r111.1), (128, r78.1), (17, (.v (Go.Value.int Go.IntKind.i64 0))), (16, r67.1), (15, r68.1), (14, r62.1), (13, r63.1), (103, r59.1), (12, x12), (94, x94), (54, x54), (11, x11), (42, x42), (10, x10), (9, x9), (8, x8), (7, x7), (6, x6), (5, x5), (4, x4), (0, x0), (1, x1)], r111.2⟩)) ((pv r111.2 (binA Try.prog .add 3 x12 (.v (Go.Value.int Go.IntKind.i64 1)))).bind fun r112 =>
  some (.normal, ⟨[(12, r112.1), (151, r111.1), (128, r78.1), (17, (.v (Go.Value.int Go.IntKind.i64 0))), (16, r67.1), (15, r68.1), (14, r62.1), (13, r63.1), (103, r59.1), (12, x12), (94, x94), (54, x54), (11, x11), (42, x42), (10, x10), (9, x9), (8, x8), (7, x7), (6, x6), (5, x5), (4, x4), (0, x0), (1, x1)], r112.2⟩)))) (some (.exit 2, ⟨[(103, r59.1), (12, x12), (94, x94), (54, x54), (11, x11), (42, x42), (10, x10), (9, x9), (8, x8), (7, x7), (6, x6), (5, x5), (4, x4), (0, x0), (1, x1)], r59.2⟩))
theorem L_l04_DiskPlays_1_lit {E : FnA} {n n0 : Nat} {x12 x94 x54 x11 x42 x10 x9 x8 x7 x6 x5 x4 x0 x1 : AV} {y : Bx} {Q : Ex → S → Prop} (h : Ends (B_l04_DiskPlays_1 E n n0 x12 x94 x54 x11 x42 x10 x9 x8 x7 x6 x5 x4 x0 x1 y) Q) : Ends (L_l04_DiskPlays_1 E n n0 ⟨[(12, x12), (94, x94), (54, x54), (11, x11), (42, x42), (10, x10), (9, x9), (8, x8), (7, x7), (6, x6), (5, x5), (4, x4), (0, x0), (1, x1)], y⟩) Q := by
  rw [show L_l04_DiskPlays_1 E n n0 ⟨[(12, x12), (94, x94), (54, x54), (11, x11), (42, x42), (10, x10), (9, x9), (8, x8), (7, x7), (6, x6), (5, x5), (4, x4), (0, x0), (1, x1)], y⟩ = B_l04_DiskPlays_1 E n n0 x12 x94 x54 x11 x42 x10 x9 x8 x7 x6 x5 x4 x0 x1 y by kernel_rfl]
  exact h
noncomputable def K_l04_DiskPlays_1 (E : FnA) (_n _n0 : Nat) (t : S) : Option (Ex × S) :=
  (callA E md_l04_DiskPlays t.bx 18 [(get t.env 7)]).bind fun r193 =>
  (pv r193.2 (lenA Try.prog 35 r193.1)).bind fun r194 =>
  (pv r194.2 (nilA (get (prune kp_l04_DiskPlays t.env) 9))).bind fun r195 =>
  (pv r195.2 (fieldAddrA Try.prog 57 r195.1 1)).bind fun r196 =>
  (pv r196.2 (loadA Try.prog 35 r196.2 r196.1)).bind fun r197 =>
  (pv r197.2 (lenA Try.prog 35 r197.1)).bind fun r198 =>
  (pv r198.2 (binA Try.prog .neq 3 r194.1 r198.1)).bind fun r199 =>
  (gsel false r199.2 (some (r193.1, r199.2)) r199.1).bind fun r200 =>
  (gsel false r200.2 (pv r200.2 (indexAddrA Try.prog 35 r200.1 (.v (Go.Value.int Go.IntKind.i64 0)))) r199.1).bind fun r201 =>
  (gsel false r201.2 (pv r201.2 (loadA Try.prog 32 r201.2 r201.1)) r199.1).bind fun r202 =>
  (gsel false r202.2 (some ((get (prune kp_l04_DiskPlays t.env) 9), r202.2)) r199.1).bind fun r203 =>
  (gsel false r203.2 (pv r203.2 (nilA r203.1)) r199.1).bind fun r204 =>
  (gsel false r204.2 (pv r204.2 (fieldAddrA Try.prog 57 r204.1 1)) r199.1).bind fun r205 =>
  (gsel false r205.2 (pv r205.2 (loadA Try.prog 35 r205.2 r205.1)) r199.1).bind fun r206 =>
  (gsel false r206.2 (pv r206.2 (indexAddrA Try.prog 35 r206.1 (.v (Go.Value.int Go.IntKind.i64 0)))) r199.1).bind fun r207 =>
  (gsel false r207.2 (pv r207.2 (loadA Try.prog 32 r207.2 r207.1)) r199.1).bind fun r208 =>
  (gsel false r208.2 (pv r208.2 (binA Try.prog .neq 32 r202.1 r208.1)) r199.1).bind fun r209 =>
  (pv r209.2 (pickA r199.1 (.v (Go.Value.bool true)) r209.1)).bind fun r210 =>
  condA r210.1 (some (.ret, ⟨((4, (.v (Go.Value.bool false))) :: (173, r210.1) :: (18, r193.1) :: (prune kp_l04_DiskPlays (prune kp_l04_DiskPlays (prune kp_l04_DiskPlays t.env)))), r210.2⟩)) ((pv r210.2 (binA Try.prog .add 3 (get (prune kp_l04_DiskPlays (prune kp_l04_DiskPlays t.env)) 11) (.v (Go.Value.int Go.IntKind.i64 1)))).bind fun r211 =>
  some (.normal, ⟨((11, r211.1) :: (173, r210.1) :: (18, r193.1) :: (prune kp_l04_DiskPlays (prune kp_l04_DiskPlays (prune kp_l04_DiskPlays t.env)))), r211.2⟩))
noncomputable def X_l04_DiskPlays_1 (E : FnA) (_n _n0 : Nat) (i : Nat) (t : S) : Option (Ex × S) :=
  if i = 2 then (callA E md_l04_DiskPlays t.bx 18 [(get t.env 7)]).bind fun r173 =>
  (pv r173.2 (lenA Try.prog 35 r173.1)).bind fun r174 =>
  (pv r174.2 (nilA (get (prune kp_l04_DiskPlays t.env) 9))).bind fun r175 =>
  (pv r175.2 (fieldAddrA Try.prog 57 r175.1 1)).bind fun r176 =>
  (pv r176.2 (loadA Try.prog 35 r176.2 r176.1)).bind fun r177 =>
  (pv r177.2 (lenA Try.prog 35 r177.1)).bind fun r178 =>
  (pv r178.2 (binA Try.prog .neq 3 r174.1 r178.1)).bind fun r179 =>
  (gsel false r179.2 (some (r173.1, r179.2)) r179.1).bind fun r180 =>
  (gsel false r180.2 (pv r180.2 (indexAddrA Try.prog 35 r180.1 (.v (Go.Value.int Go.IntKind.i64 0)))) r179.1).bind fun r181 =>
  (gsel false r181.2 (pv r181.2 (loadA Try.prog 32 r181.2 r181.1)) r179.1).bind fun r182 =>
  (gsel false r182.2 (some ((get (prune kp_l04_DiskPlays t.env) 9), r182.2)) r179.1).bind fun r183 =>
  (gsel false r183.2 (pv r183.2 (nilA r183.1)) r179.1).bind fun r184 =>
  (gsel false r184.2 (pv r184.2 (fieldAddrA Try.prog 57 r184.1 1)) r179.1).bind fun r185 =>
  (gsel false r185.2 (pv r185.2 (loadA Try.prog 35 r185.2 r185.1)) r179.1).bind fun r186 =>
  (gsel false r186.2 (pv r186.2 (indexAddrA Try.prog 35 r186.1 (.v (Go.Value.int Go.IntKind.i64 0)))) r179.1).bind fun r187 =>
  (gsel false r187.2 (pv r187.2 (loadA Try.prog 32 r187.2 r187.1)) r179.1).bind fun r188 =>
  (gsel false r188.2 (pv r188.2 (binA Try.prog .neq 32 r182.1 r188.1)) r179.1).bind fun r189 =>
  (pv r189.2 (pickA r179.1 (.v (Go.Value.bool true)) r189.1)).bind fun r190 =>
  condA r190.1 (some (.ret, ⟨((4, (.v (Go.Value.bool false))) :: (173, r190.1) :: (18, r173.1) :: (prune kp_l04_DiskPlays (prune kp_l04_DiskPlays (prune kp_l04_DiskPlays t.env)))), r190.2⟩)) ((pv r190.2 (binA Try.prog .add 3 (get (prune kp_l04_DiskPlays (prune kp_l04_DiskPlays t.env)) 11) (.v (Go.Value.int Go.IntKind.i64 1)))).bind fun r191 =>
  some (.normal, ⟨((11, r191.1) :: (173, r190.1) :: (18, r173.1) :: (prune kp_l04_DiskPlays (prune kp_l04_DiskPlays (prune kp_l04_DiskPlays t.env)))), r191.2⟩)) else if i = 1 then (pv t.bx (binA Try.prog .add 3 (get t.env 11) (.v (Go.Value.int Go.IntKind.i64 1)))).bind fun r192 =>
  some (.normal, ⟨((11, r192.1) :: (prune kp_l04_DiskPlays t.env)), r192.2⟩) else some (.exit i, ⟨t.env, t.bx⟩)
noncomputable def X_l04_DiskPlays_1_0 (E : FnA) (_n _n0 : Nat) (x103 x12 x94 x54 x11 x42 x10 x9 x8 x7 x6 x5 x4 x0 x1 : AV) (y : Bx) : Option (Ex × S) :=
  (callA E md_l04_DiskPlays y 18 [x7]).bind fun r212 =>
  (pv r212.2 (lenA Try.prog 35 r212.1)).bind fun r213 =>
  (pv r213.2 (nilA x9)).bind fun r214 =>
  (pv r214.2 (fieldAddrA Try.prog 57 r214.1 1)).bind fun r215 =>
  (pv r215.2 (loadA Try.prog 35 r215.2 r215.1)).bind fun r216 =>
  (pv r216.2 (lenA Try.prog 35 r216.1)).bind fun r217 =>
  (pv r217.2 (binA Try.prog .neq 3 r213.1 r217.1)).bind fun r218 =>
  (gsel false r218.2 (some (r212.1, r218.2)) r218.1).bind fun r219 =>
  (gsel false r219.2 (pv r219.2 (indexAddrA Try.prog 35 r219.1 (.v (Go.Value.int Go.IntKind.i64 0)))) r218.1).bind fun r220 =>
  (gsel false r220.2 (pv r220.2 (loadA Try.prog 32 r220.2 r220.1)) r218.1).bind fun r221 =>
  (gsel false r221.2 (some (x9, r221.2)) r218.1).bind fun r222 =>
  (gsel false r222.2 (pv r222.2 (nilA r222.1)) r218.1).bind fun r223 =>
  (gsel false r223.2 (pv r223.2 (fieldAddrA Try.prog 57 r223.1 1)) r218.1).bind fun r224 =>
  (gsel false r224.2 (pv r224.2 (loadA Try.prog 35 r224.2 r224.1)) r218.1).bind fun r225 =>
  (gsel false r225.2 (pv r225.2 (indexAddrA Try.prog 35 r225.1 (.v (Go.Value.int Go.IntKind.i64 0)))) r218.1).bind fun r226 =>
  (gsel false r226.2 (pv r226.2 (loadA Try.prog 32 r226.2 r226.1)) r218.1).bind fun r227 =>
  (gsel false r227.2 (pv r227.2 (binA Try.prog .neq 32 r221.1 r227.1)) r218.1).bind fun r228 =>
  (pv r228.2 (pickA r218.1 (.v (Go.Value.bool true)) r228.1)).bind fun r229 =>
  condA r229.1 (some (.ret, ⟨[(4, (.v (Go.Value.bool false))), (173, r229.1), (18, r212.1), (103, x103), (12, x12), (94, x94), (54, x54), (11, x11), (42, x42), (10, x10), (9, x9), (8, x8), (7, x7), (6, x6), (5, x5), (4, x4), (0, x0), (1, x1)], r229.2⟩)) ((pv r229.2 (binA Try.prog .add 3 x11 (.v (Go.Value.int Go.IntKind.i64 1)))).bind fun r230 =>
  some (.normal, ⟨[(11, r230.1), (173, r229.1), (18, r212.1), (103, x103), (12, x12), (94, x94), (54, x54), (11, x11), (42, x42), (10, x10), (9, x9), (8, x8), (7, x7), (6, x6), (5, x5), (4, x4), (0, x0), (1, x1)], r230.2⟩))
theorem X_l04_DiskPlays_1_0_lit {E : FnA} {n n0 : Nat} {x103 x12 x94 x54 x11 x42 x10 x9 x8 x7 x6 x5 x4 x0 x1 : AV} {y : Bx} {Q : Ex → S → Prop} (h : Ends (X_l04_DiskPlays_1_0 E n n0 x103 x12 x94 x54 x11 x42 x10 x9 x8 x7 x6 x5 x4 x0 x1 y) Q) : Ends (X_l04_DiskPlays_1 E n n0 2 ⟨[(103, x103), (12, x12), (94, x94), (54, x54), (11, x11), (42, x42), (10, x10), (9, x9), (8, x8), (7, x7), (6, x6), (5, x5), (4, x4), (0, x0), (1, x1)], y⟩) Q := by
  rw [show X_l04_DiskPlays_1 E n n0 2 ⟨[(103, x103), (12, x12), (94, x94), (54, x54), (11, x11), (42, x42), (10, x10), (9, x9), (8, x8), (7, x7), (6, x6), (5, x5), (4, x4), (0, x0), (1, x1)], y⟩ = X_l04_DiskPlays_1_0 E n n0 x103 x12 x94 x54 x11 x42 x10 x9 x8 x7 x6 x5 x4 x0 x1 y by kernel_rfl]
  exact h
noncomputable def L_l04_DiskPlays_0 (E : FnA) (n n0 : Nat) (s : S) : Option (Ex × S) :=
  (pv s.bx (lenA Try.prog 22 (get s.env 1))).bind fun r231 =>
  (pv r231.2 (binA Try.prog .lss 3 (get s.env 11) r231.1)).bind fun r232 =>
  (gsel true r232.2 (some ((get s.env 11), r232.2)) r232.1).bind fun r233 =>
  (gsel true r233.2 (pv r233.2 (binA Try.prog .lss 3 r233.1 (.v (Go.Value.int Go.IntKind.i64 60)))) r232.1).bind fun r234 =>
  (pv r234.2 (pickA r232.1 r234.1 (.v (Go.Value.bool false)))).bind fun r235 =>
  (gsel true r235.2 (some ((get s.env 9), r235.2)) r235.1).bind fun r236 =>
  (gsel true r236.2 (pv r236.2 (binA Try.prog .neq 51 r236.1 (.v (Go.Value.pointer none)))) r235.1).bind fun r237 =>
  (pv r237.2 (pickA r235.1 r237.1 (.v (Go.Value.bool false)))).bind fun r238 =>
  condA r238.1 ((pv r238.2 (indexAddrA Try.prog 22 (get (prune kp_l04_DiskPlays s.env) 1) (get (prune kp_l04_DiskPlays s.env) 11))).bind fun r239 =>
  (pv r239.2 (loadA Try.prog 34 r239.2 r239.1)).bind fun r240 =>
  (callA E md_l04_DiskPlays r240.2 22 [(get (prune kp_l04_DiskPlays s.env) 7), (get (prune kp_l04_DiskPlays s.env) 9), (get (prune kp_l04_DiskPlays s.env) 5), (get (prune kp_l04_DiskPlays s.env) 6), r240.1]).bind fun r241 =>
  (pv r241.2 (unA .not r241.1)).bind fun r242 =>
  (gsel false r242.2 (some ((get (prune kp_l04_DiskPlays s.env) 7), r242.2)) r242.1).bind fun r243 =>
  (gsel false r243.2 (callA E md_l04_DiskPlays r243.2 17 [r243.1]) r242.1).bind fun r244 =>
  (gsel false r244.2 (some ((get (prune kp_l04_DiskPlays s.env) 9), r244.2)) r242.1).bind fun r245 =>
  (gsel false r245.2 (pv r245.2 (nilA r245.1)) r242.1).bind fun r246 =>
  (gsel false r246.2 (pv r246.2 (fieldAddrA Try.prog 57 r246.1 3)) r242.1).bind fun r247 =>
  (gsel false r247.2 (pv r247.2 (loadA Try.prog 3 r247.2 r247.1)) r242.1).bind fun r248 =>
  (gsel false r248.2 (pv r248.2 (binA Try.prog .neq 3 r244.1 r248.1)) r242.1).bind fun r249 =>
  (pv r249.2 (pickA r242.1 (.v (Go.Value.bool true)) r249.1)).bind fun r250 =>
  (gsel false r250.2 (some ((get (prune kp_l04_DiskPlays s.env) 7), r250.2)) r250.1).bind fun r251 =>
  (gsel false r251.2 (callA E md_l04_DiskPlays r251.2 16 [r251.1]) r250.1).bind fun r252 =>
  (gsel false r252.2 (some ((get (prune kp_l04_DiskPlays s.env) 9), r252.2)) r250.1).bind fun r253 =>
  (gsel false r253.2 (pv r253.2 (nilA r253.1)) r250.1).bind fun r254 =>
  (gsel false r254.2 (pv r254.2 (fieldAddrA Try.prog 57 r254.1 1)) r250.1).bind fun r255 =>
  (gsel false r255.2 (pv r255.2 (loadA Try.prog 35 r255.2 r255.1)) r250.1).bind fun r256 =>
  (gsel false r256.2 (pv r256.2 (lenA Try.prog 35 r256.1)) r250.1).bind fun r257 =>
  (gsel false r257.2 (pv r257.2 (binA Try.prog .neq 3 r252.1 r257.1)) r250.1).bind fun r258 =>
  (pv r258.2 (pickA r250.1 (.v (Go.Value.bool true)) r258.1)).bind fun r259 =>
  (gsel false r259.2 (some ((get (prune kp_l04_DiskPlays s.env) 5), r259.2)) r259.1).bind fun r260 =>
  (gsel false r260.2 (callA E md_l04_DiskPlays r260.2 23 [r260.1]) r259.1).bind fun r261 =>
  (gsel false r261.2 (some ((get (prune kp_l04_DiskPlays s.env) 6), r261.2)) r259.1).bind fun r262 =>
  (gsel false r262.2 (pv r262.2 (nilA r262.1)) r259.1).bind fun r263 =>
  (gsel false r263.2 (pv r263.2 (fieldAddrA Try.prog 59 r263.1 2)) r259.1).bind fun r264 =>
  (gsel false r264.2 (pv r264.2 (loadA Try.prog 4 r264.2 r264.1)) r259.1).bind fun r265 =>
  (gsel false r265.2 (pv r265.2 (binA Try.prog .neq 4 r261.1 r265.1)) r259.1).bind fun r266 =>
  (pv r266.2 (pickA r259.1 (.v (Go.Value.bool true)) r266.1)).bind fun r267 =>
  condA r267.1 (some (.ret, ⟨((4, (.v (Go.Value.bool false))) :: (94, r267.1) :: (54, r238.1) :: (prune kp_l04_DiskPlays (prune kp_l04_DiskPlays (prune kp_l04_DiskPlays s.env)))), r267.2⟩)) (exitA (iter (headK ⟨((12, (.v (Go.Value.int Go.IntKind.i64 (-1)))) :: (94, r267.1) :: (54, r238.1) :: (prune kp_l04_DiskPlays (prune kp_l04_DiskPlays (prune kp_l04_DiskPlays s.env)))), r267.2⟩) (L_l04_DiskPlays_1 E n n0) n ⟨((12, (.v (Go.Value.int Go.IntKind.i64 (-1)))) :: (94, r267.1) :: (54, r238.1) :: (prune kp_l04_DiskPlays (prune kp_l04_DiskPlays (prune kp_l04_DiskPlays s.env)))), r267.2⟩) (K_l04_DiskPlays_1 E n n0) (X_l04_DiskPlays_1 E n n0))) (some (.exit 0, ⟨((54, r238.1) :: (prune kp_l04_DiskPlays s.env)), r238.2⟩))
noncomputable def B_l04_DiskPlays_0 (E : FnA) (n n0 : Nat) (x11 x42 x10 x9 x8 x7 x6 x5 x4 x0 x1 : AV) (y : Bx) : Option (Ex × S) :=
  (pv y (lenA Try.prog 22 x1)).bind fun r16 =>
  (pv r16.2 (binA Try.prog .lss 3 x11 r16.1)).bind fun r17 =>
  (gsel true r17.2 (some (x11, r17.2)) r17.1).bind fun r18 =>
  (gsel true r18.2 (pv r18.2 (binA Try.prog .lss 3 r18.1 (.v (Go.Value.int Go.IntKind.i64 60)))) r17.1).bind fun r19 =>
  (pv r19.2 (pickA r17.1 r19.1 (.v (Go.Value.bool false)))).bind fun r20 =>
  (gsel true r20.2 (some (x9, r20.2)) r20.1).bind fun r21 =>
  (gsel true r21.2 (pv r21.2 (binA Try.prog .neq 51 r21.1 (.v (Go.Value.pointer none)))) r20.1).bind fun r22 =>
  (pv r22.2 (pickA r20.1 r22.1 (.v (Go.Value.bool false)))).bind fun r23 =>
  condA r23.1 ((pv r23.2 (indexAddrA Try.prog 22 x1 x11)).bind fun r24 =>
  (pv r24.2 (loadA Try.prog 34 r24.2 r24.1)).bind fun r25 =>
  (callA E md_l04_DiskPlays r25.2 22 [x7, x9, x5, x6, r25.1]).bind fun r26 =>
  (pv r26.2 (unA .not r26.1)).bind fun r27 =>
  (gsel false r27.2 (some (x7, r27.2)) r27.1).bind fun r28 =>
  (gsel false r28.2 (callA E md_l04_DiskPlays r28.2 17 [r28.1]) r27.1).bind fun r29 =>
  (gsel false r29.2 (some (x9, r29.2)) r27.1).bind fun r30 =>
  (gsel false r30.2 (pv r30.2 (nilA r30.1)) r27.1).bind fun r31 =>
  (gsel false r31.2 (pv r31.2 (fieldAddrA Try.prog 57 r31.1 3)) r27.1).bind fun r32 =>
  (gsel false r32.2 (pv r32.2 (loadA Try.prog 3 r32.2 r32.1)) r27.1).bind fun r33 =>
  (gsel false r33.2 (pv r33.2 (binA Try.prog .neq 3 r29.1 r33.1)) r27.1).bind fun r34 =>
  (pv r34.2 (pickA r27.1 (.v (Go.Value.bool true)) r34.1)).bind fun r35 =>
  (gsel false r35.2 (some (x7, r35.2)) r35.1).bind fun r36 =>
  (gsel false r36.2 (callA E md_l04_DiskPlays r36.2 16 [r36.1]) r35.1).bind fun r37 =>
  (gsel false r37.2 (some (x9, r37.2)) r35.1).bind fun r38 =>
  (gsel false r38.2 (pv r38.2 (nilA r38.1)) r35.1).bind fun r39 =>
  (gsel false r39.2 (pv r39.2 (fieldAddrA Try.prog 57 r39.1 1)) r35.1).bind fun r40 =>
  (gsel false r40.2 (pv r40.2 (loadA Try.prog 35 r40.2 r40.1)) r35.1).bind fun r41 =>
  (gsel false r41.2 (pv r41.2 (lenA Try.prog 35 r41.1)) r35.1).bind fun r42 =>
  (gsel false r42.2 (pv r42.2 (binA Try.prog .neq 3 r37.1 r42.1)) r35.1).bind fun r43 =>
  (pv r43.2 (pickA r35.1 (.v (Go.Value.bool true)) r43.1)).bind fun r44 =>
  (gsel false r44.2 (some (x5, r44.2)) r44.1).bind fun r45 =>
  (gsel false r45.2 (callA E md_l04_DiskPlays r45.2 23 [r45.1]) r44.1).bind fun r46 =>
  (gsel false r46.2 (some (x6, r46.2)) r44.1).bind fun r47 =>
  (gsel false r47.2 (pv r47.2 (nilA r47.1)) r44.1).bind fun r48 =>
  (gsel false r48.2 (pv r48.2 (fieldAddrA Try.prog 59 r48.1 2)) r44.1).bind fun r49 =>
  (gsel false r49.2 (pv r49.2 (loadA Try.prog 4 r49.2 r49.1)) r44.1).bind fun r50 =>
  (gsel false r50.2 (pv r50.2 (binA Try.prog .neq 4 r46.1 r50.1)) r44.1).bind fun r51 =>
  (pv r51.2 (pickA r44.1 (.v (Go.Value.bool true)) r51.1)).bind fun r52 =>
  condA r52.1 (some (.ret, ⟨[(4, (.v (Go.Value.bool false))), (94, r52.1), (54, r23.1), (11, x11), (42, x42), (10, x10), (9, x9), (8, x8), (7, x7), (6, x6), (5, x5), (4, x4), (0, x0), (1, x1)], r52.2⟩)) (exitA (iter (headK ⟨[(12, (.v (Go.Value.int Go.IntKind.i64 (-1)))), (94, r52.1), (54, r23.1), (11, x11), (42, x42), (10, x10), (9, x9), (8, x8), (7, x7), (6, x6), (5, x5), (4, x4), (0, x0), (1, x1)], r52.2⟩) (L_l04_DiskPlays_1 E n n0) n ⟨[(12, (.v (Go.Value.int Go.IntKind.i64 (-1)))), (94, r52.1), (54, r23.1), (11, x11), (42, x42), (10, x10), (9, x9), (8, x8), (7, x7), (6, x6), (5, x5), (4, x4), (0, x0), (1, x1)], r52.2⟩) (K_l04_DiskPlays_1 E n n0) (X_l04_DiskPlays_1 E n n0))) (some (.exit 0, ⟨[(54, r23.1), (11, x11), (42, x42), (10, x10), (9, x9), (8, x8), (7, x7), (6, x6), (5, x5), (4, x4), (0, x0), (1, x1)], r23.2⟩))
theorem L_l04_DiskPlays_0_lit {E : FnA} {n n0 : Nat} {x11 x42 x10 x9 x8 x7 x6 x5 x4 x0 x1 : AV} {y : Bx} {Q : Ex → S → Prop} (h : Ends (B_l04_DiskPlays_0 E n n0 x11 x42 x10 x9 x8 x7 x6 x5 x4 x0 x1 y) Q) : Ends (L_l04_DiskPlays_0 E n n0 ⟨[(11, x11), (42, x42), (10, x10), (9, x9), (8, x8), (7, x7), (6, x6), (5, x5), (4, x4), (0, x0), (1, x1)], y⟩) Q := by
  rw [show L_l04_DiskPlays_0 E n n0 ⟨[(11, x11), (42, x42), (10, x10), (9, x9), (8, x8), (7, x7), (6, x6), (5, x5), (4, x4), (0, x0), (1, x1)], y⟩ = B_l04_DiskPlays_0 E n n0 x11 x42 x10 x9 x8 x7 x6 x5 x4 x0 x1 y by kernel_rfl]
  exact h
noncomputable def K_l04_DiskPlays_0 (E : FnA) (_n _n0 : Nat) (t : S) : Option (Ex × S) :=
  (callA E md_l04_DiskPlays t.bx 6 []).bind fun r269 =>
  some (.ret, ⟨((4, r269.1) :: (prune kp_l04_DiskPlays t.env)), r269.2⟩)
noncomputable def X_l04_DiskPlays_0 (E : FnA) (_n _n0 : Nat) (i : Nat) (t : S) : Option (Ex × S) :=
  if i = 0 then (callA E md_l04_DiskPlays t.bx 6 []).bind fun r268 =>
  some (.ret, ⟨((4, r268.1) :: (prune kp_l04_DiskPlays t.env)), r268.2⟩) else some (.exit i, ⟨t.env, t.bx⟩)
noncomputable def X_l04_DiskPlays_0_0 (E : FnA) (_n _n0 : Nat) (x54 x11 x42 x10 x9 x8 x7 x6 x5 x4 x0 x1 : AV) (y : Bx) : Option (Ex × S) :=
  (callA E md_l04_DiskPlays y 6 []).bind fun r270 =>
  some (.ret, ⟨[(4, r270.1), (54, x54), (11, x11), (42, x42), (10, x10), (9, x9), (8, x8), (7, x7), (6, x6), (5, x5), (4, x4), (0, x0), (1, x1)], r270.2⟩)
theorem X_l04_DiskPlays_0_0_lit {E : FnA} {n n0 : Nat} {x54 x11 x42 x10 x9 x8 x7 x6 x5 x4 x0 x1 : AV} {y : Bx} {Q : Ex → S → Prop} (h : Ends (X_l04_DiskPlays_0_0 E n n0 x54 x11 x42 x10 x9 x8 x7 x6 x5 x4 x0 x1 y) Q) : Ends (X_l04_DiskPlays_0 E n n0 0 ⟨[(54, x54), (11, x11), (42, x42), (10, x10), (9, x9), (8, x8), (7, x7), (6, x6), (5, x5), (4, x4), (0, x0), (1, x1)], y⟩) Q := by
  rw [show X_l04_DiskPlays_0 E n n0 0 ⟨[(54, x54), (11, x11), (42, x42), (10, x10), (9, x9), (8, x8), (7, x7), (6, x6), (5, x5), (4, x4), (0, x0), (1, x1)], y⟩ = X_l04_DiskPlays_0_0 E n n0 x54 x11 x42 x10 x9 x8 x7 x6 x5 x4 x0 x1 y by kernel_rfl]
  exact h
noncomputable def F_l04_DiskPlays (E : FnA) (n n0 : Nat) (a0 a1 : AV) (bx : Bx) : Option (Ex × S) :=
  (callA E md_l04_DiskPlays bx 19 []).bind fun r1 =>
  (callA E md_l04_DiskPlays r1.2 20 []).bind fun r2 =>
  (callA E md_l04_DiskPlays r2.2 7 [a0, r1.1]).bind fun r3 =>
  (pv r3.2 (tupA r3.1 0)).bind fun r4 =>
  (pv r4.2 (tupA r3.1 1)).bind fun r5 =>
  (callA E md_l04_DiskPlays r5.2 21 [a0, r2.1]).bind fun r6 =>
  (pv r6.2 (tupA r6.1 0)).bind fun r7 =>
  (pv r7.2 (tupA r6.1 1)).bind fun r8 =>
  (pv r8.2 (binA Try.prog .neq 26 r5.1 r8.1)).bind fun r9 =>
  (gsel false r9.2 (some (r4.1, r9.2)) r9.1).bind fun r10 =>
  (gsel false r10.2 (pv r10.2 (binA Try.prog .eql 25 r10.1 (.v (Go.Value.pointer none)))) r9.1).bind fun r11 =>
  (gsel false r11.2 (some (r7.1, r11.2)) r9.1).bind fun r12 =>
  (gsel false r12.2 (pv r12.2 (binA Try.prog .eql 51 r12.1 (.v (Go.Value.pointer none)))) r9.1).bind fun r13 =>
  (gsel false r13.2 (pv r13.2 (binA Try.prog .neq 4 r11.1 r13.1)) r9.1).bind fun r14 =>
  (pv r14.2 (pickA r9.1 (.v (Go.Value.bool true)) r14.1)).bind fun r15 =>
  condA r15.1 (some (.ret, ⟨[(4, (.v (Go.Value.bool false))), (42, r15.1), (10, r8.1), (9, r7.1), (8, r5.1), (7, r4.1), (6, r2.1), (5, r1.1), (4, (.v (Go.Value.bool false))), (0, a0), (1, a1)], r15.2⟩)) (exitA (iter (headK ⟨[(11, (.v (Go.Value.int Go.IntKind.i64 0))), (42, r15.1), (10, r8.1), (9, r7.1), (8, r5.1), (7, r4.1), (6, r2.1), (5, r1.1), (4, (.v (Go.Value.bool false))), (0, a0), (1, a1)], r15.2⟩) (L_l04_DiskPlays_0 E n n0) n ⟨[(11, (.v (Go.Value.int Go.IntKind.i64 0))), (42, r15.1), (10, r8.1), (9, r7.1), (8, r5.1), (7, r4.1), (6, r2.1), (5, r1.1), (4, (.v (Go.Value.bool false))), (0, a0), (1, a1)], r15.2⟩) (K_l04_DiskPlays_0 E n n0) (X_l04_DiskPlays_0 E n n0))
theorem c_l04_DiskPlays_eq : Try.f5.body = some c_l04_DiskPlays := by kernel_rfl
theorem d_l04_DiskPlays : drawsOk Try.prog md_l04_DiskPlays c_l04_DiskPlays = true := by kernel_rfl
theorem F_l04_DiskPlays_eq (E : FnA) (n n0 : Nat) (a0 a1 : AV) (bx : Bx) : evK Try.prog md_l04_DiskPlays E 175 kp_l04_DiskPlays n n0 c_l04_DiskPlays ⟨[(0, a0), (1, a1)], bx⟩ (fun s => some (.normal, s)) (fun i s => some (.exit i, s)) = F_l04_DiskPlays E n n0 a0 a1 bx := by kernel_rfl

theorem E_l04_DiskPlays (n : Nat) (a0 a1 : AV) (bx : Bx) : evFn cx0 ext0 (n + 1) 5 [a0, a1] bx = fin Try.prog [.tmp 4] (F_l04_DiskPlays (evFn cx0 ext0 n) n bx.length a0 a1 bx) := by
  rw [evFn_eq2 (cx := cx0) (c := c_l04_DiskPlays) rfl Try.func5 c_l04_DiskPlays_eq (of_decide_eq_true (by kernel_rfl)) d_l04_DiskPlays (of_decide_eq_true (by kernel_rfl))]
  exact congrArg (fin Try.prog [.tmp 4]) (F_l04_DiskPlays_eq (evFn cx0 ext0 n) n bx.length a0 a1 bx)

/-- scupper/scupperlaw04.do -/
def kp_l04_do : Option (List Nat) := some [0, 1, 2, 3, 4, 9, 10, 11, 12, 15, 16, 31, 38, 49, 60, 66, 79, 93]
noncomputable def c_l04_do : Code := Try.f22.body.getD .skip
noncomputable def F_l04_do (E : FnA) (_n n0 : Nat) (a0 a1 a2 a3 a4 : AV) (bx : Bx) : Option (Ex × S) :=
  (pv bx (boxI a4)).bind fun r1 =>
  (pv r1.2 (fieldAddrA Try.prog 34 r1.1 0)).bind fun r2 =>
  (pv r2.2 (loadA Try.prog 3 r2.2 r2.1)).bind fun r3 =>
  (callA E md_l04_do r3.2 9 [r3.1, (.v (Go.Value.int Go.IntKind.i64 11))]).bind fun r4 =>
  (pv r4.2 (binA Try.prog .eql 3 r4.1 (.v (Go.Value.int Go.IntKind.i64 5)))).bind fun r5 =>
  condA r5.1 ((pv r5.2 (fieldAddrA Try.prog 34 r1.1 1)).bind fun r6 =>
  (pv r6.2 (loadA Try.prog 3 r6.2 r6.1)).bind fun r7 =>
  (pv r7.2 (fieldAddrA Try.prog 34 r1.1 2)).bind fun r8 =>
  (pv r8.2 (loadA Try.prog 32 r8.2 r8.1)).bind fun r9 =>
  (callA E md_l04_do r9.2 14 [a0, r7.1, r9.1]).bind fun r10 =>
  (pv r10.2 (fieldAddrA Try.prog 34 r1.1 1)).bind fun r11 =>
  (guardB (apartV .ns r11.1 && true)).bind fun _ =>
  (pv r11.2 (loadA Try.prog 3 r11.2 r11.1)).bind fun r12 =>
  (pv r12.2 (fieldAddrA Try.prog 34 r1.1 2)).bind fun r13 =>
  (guardB (apartV .ns r13.1 && true)).bind fun _ =>
  (pv r13.2 (loadA Try.prog 32 r13.2 r13.1)).bind fun r14 =>
  (callA E md_l04_do r14.2 29 [a1, r12.1, r14.1]).bind fun r15 =>
  (pv r15.2 (binA Try.prog .eql 26 r10.1 r15.1)).bind fun r16 =>
  some (.ret, ⟨[(10, r16.1), (16, r5.1), (15, r4.1), (10, (.v (Go.Value.bool false))), (9, r1.1), (0, a0), (1, a1), (2, a2), (3, a3), (4, a4)], r16.2⟩)) ((pv r5.2 (binA Try.prog .eql 3 r4.1 (.v (Go.Value.int Go.IntKind.i64 6)))).bind fun r17 =>
  condA r17.1 ((callA E md_l04_do r17.2 10 [a0]).bind fun r18 =>
  (callA E md_l04_do r18.2 30 [a1]).bind fun r19 =>
  (pv r19.2 (binA Try.prog .eql 26 r18.1 r19.1)).bind fun r20 =>
  some (.ret, ⟨[(10, r20.1), (31, r17.1), (16, r5.1), (15, r4.1), (10, (.v (Go.Value.bool false))), (9, r1.1), (0, a0), (1, a1), (2, a2), (3, a3), (4, a4)], r20.2⟩)) ((pv r17.2 (binA Try.prog .eql 3 r4.1 (.v (Go.Value.int Go.IntKind.i64 7)))).bind fun r21 =>
  condA r21.1 ((pv r21.2 (fieldAddrA Try.prog 34 r1.1 3)).bind fun r22 =>
  (pv r22.2 (loadA Try.prog 23 r22.2 r22.1)).bind fun r23 =>
  (callA E md_l04_do r23.2 31 [r23.1]).bind fun r24 =>
  (callA E md_l04_do r24.2 12 [a0, r24.1]).bind fun r25 =>
  (pv r25.2 (fieldAddrA Try.prog 34 r1.1 3)).bind fun r26 =>
  (pv r26.2 (loadA Try.prog 23 r26.2 r26.1)).bind fun r27 =>
  (callA E md_l04_do r27.2 32 [a1, r27.1]).bind fun r28 =>
  some (.ret, ⟨[(10, (.v (Go.Value.bool true))), (38, r21.1), (31, r17.1), (16, r5.1), (15, r4.1), (10, (.v (Go.Value.bool false))), (9, r1.1), (0, a0), (1, a1), (2, a2), (3, a3), (4, a4)], r28.2⟩)) ((pv r21.2 (binA Try.prog .eql 3 r4.1 (.v (Go.Value.int Go.IntKind.i64 8)))).bind fun r29 =>
  condA r29.1 ((pv r29.2 (fieldAddrA Try.prog 34 r1.1 1)).bind fun r30 =>
  (pv r30.2 (loadA Try.prog 3 r30.2 r30.1)).bind fun r31 =>
  (callA E md_l04_do r31.2 33 [a2, r31.1]).bind fun r32 =>
  (pv r32.2 (fieldAddrA Try.prog 34 r1.1 1)).bind fun r33 =>
  (guardB (apartV .ns r33.1 && true)).bind fun _ =>
  (pv r33.2 (loadA Try.prog 3 r33.2 r33.1)).bind fun r34 =>
  (callA E md_l04_do r34.2 34 [a3, r34.1]).bind fun r35 =>
  (pv r35.2 (binA Try.prog .eql 26 r32.1 r35.1)).bind fun r36 =>
  some (.ret, ⟨[(10, r36.1), (49, r29.1), (38, r21.1), (31, r17.1), (16, r5.1), (15, r4.1), (10, (.v (Go.Value.bool false))), (9, r1.1), (0, a0), (1, a1), (2, a2), (3, a3), (4, a4)], r36.2⟩)) ((pv r29.2 (binA Try.prog .eql 3 r4.1 (.v (Go.Value.int Go.IntKind.i64 9)))).bind fun r37 =>
  condA r37.1 ((callA E md_l04_do r37.2 35 [a2]).bind fun r38 =>
  (callA E md_l04_do r38.2 36 [a3]).bind fun r39 =>
  some (.ret, ⟨[(10, (.v (Go.Value.bool true))), (60, r37.1), (49, r29.1), (38, r21.1), (31, r17.1), (16, r5.1), (15, r4.1), (10, (.v (Go.Value.bool false))), (9, r1.1), (0, a0), (1, a1), (2, a2), (3, a3), (4, a4)], r39.2⟩)) ((pv r37.2 (binA Try.prog .eql 3 r4.1 (.v (Go.Value.int Go.IntKind.i64 10)))).bind fun r40 =>
  condA r40.1 ((callA E md_l04_do r40.2 18 [a0]).bind fun r41 =>
  (pv r41.2 (fieldAddrA Try.prog 34 r1.1 1)).bind fun r42 =>
  (pv r42.2 (loadA Try.prog 3 r42.2 r42.1)).bind fun r43 =>
  (pv r43.2 (binA Try.prog .geq 3 r43.1 (.v (Go.Value.int Go.IntKind.i64 0)))).bind fun r44 =>
  (gsel true r44.2 (pv r44.2 (fieldAddrA Try.prog 34 r1.1 1)) r44.1).bind fun r45 =>
  (gsel true r45.2 (pv r45.2 (loadA Try.prog 3 r45.2 r45.1)) r44.1).bind fun r46 =>
  (gsel true r46.2 (some (r41.1, r46.2)) r44.1).bind fun r47 =>
  (gsel true r47.2 (pv r47.2 (lenA Try.prog 35 r47.1)) r44.1).bind fun r48 =>
  (gsel true r48.2 (pv r48.2 (binA Try.prog .lss 3 r46.1 r48.1)) r44.1).bind fun r49 =>
  (pv r49.2 (pickA r44.1 r49.1 (.v (Go.Value.bool false)))).bind fun r50 =>
  condA r50.1 ((pv r50.2 (fieldAddrA Try.prog 34 r1.1 1)).bind fun r51 =>
  (pv r51.2 (loadA Try.prog 3 r51.2 r51.1)).bind fun r52 =>
  (pv r52.2 (fieldAddrA Try.prog 34 r1.1 2)).bind fun r53 =>
  (pv r53.2 (loadA Try.prog 32 r53.2 r53.1)).bind fun r54 =>
  (pv r54.2 (indexAddrA Try.prog 35 r41.1 r52.1)).bind fun r55 =>
  (stA Try.prog 32 r55.2 r55.1 r54.1).bind fun r56 =>
  (pv r56.2 (litA Try.prog 35 0 [])).bind fun r57 =>
  (appA Try.prog n0 r57.2 35 r57.1 r41.1).bind fun r58 =>
  (pv r58.2.2 (fieldAddrA Try.prog 34 (r58.2.1 r1.1) 1)).bind fun r59 =>
  (pv r59.2 (loadA Try.prog 3 r59.2 r59.1)).bind fun r60 =>
  (pv r60.2 (lenA Try.prog 35 (r58.2.1 r41.1))).bind fun r61 =>
  (pv r61.2 (binA Try.prog .eql 3 r60.1 r61.1)).bind fun r62 =>
  condA r62.1 ((pv r62.2 (fieldAddrA Try.prog 34 (r58.2.1 r1.1) 2)).bind fun r63 =>
  (pv r63.2 (loadA Try.prog 32 r63.2 r63.1)).bind fun r64 =>
  (pv r64.2 (litA Try.prog 35 1 [(0, r64.1)])).bind fun r65 =>
  (appA Try.prog n0 r65.2 35 (r58.2.1 r41.1) r65.1).bind fun r66 =>
  (guardB (freeA (r58.2.1 r41.1) (r66.2.1 r58.1) && (freeA (r58.2.1 r41.1) (r66.2.1 r58.1) && true))).bind fun _ =>
  (pv r66.2.2 (fieldAddrA Try.prog 34 (r66.2.1 (r58.2.1 r1.1)) 2)).bind fun r67 =>
  (guardB (freeA (r58.2.1 r41.1) (r66.2.1 (r58.2.1 r1.1)) && (freeA (r58.2.1 r41.1) r67.1 && true))).bind fun _ =>
  (guardB (apartV (apAd r65.2 (r58.2.1 r41.1)) r67.1 && true)).bind fun _ =>
  (pv r67.2 (loadA Try.prog 32 r67.2 r67.1)).bind fun r68 =>
  (guardB (freeA (r58.2.1 r41.1) r67.1 && (freeA (r58.2.1 r41.1) r68.1 && true))).bind fun _ =>
  (pv r68.2 (litA Try.prog 35 1 [(0, r68.1)])).bind fun r69 =>
  (guardB (freeA (r58.2.1 r41.1) r68.1 && (freeA (r58.2.1 r41.1) r69.1 && true))).bind fun _ =>
  (appA Try.prog n0 r69.2 35 (r66.2.1 r58.1) r69.1).bind fun r70 =>
  (callA E md_l04_do r70.2.2 15 [(r70.2.1 (r66.2.1 (r58.2.1 a0))), (r70.2.1 r66.1)]).bind fun r71 =>
  (callA E md_l04_do r71.2 37 [(r70.2.1 (r66.2.1 (r58.2.1 a1))), r70.1]).bind fun r72 =>
  (pv r72.2 (binA Try.prog .eql 26 r71.1 r72.1)).bind fun r73 =>
  some (.ret, ⟨[(10, r73.1), (12, r70.1), (11, (r70.2.1 r66.1)), (93, (r70.2.1 (r66.2.1 r62.1))), (12, (r70.2.1 (r66.2.1 r58.1))), (79, (r70.2.1 (r66.2.1 (r58.2.1 r50.1)))), (11, (r70.2.1 (r66.2.1 (r58.2.1 r41.1)))), (66, (r70.2.1 (r66.2.1 (r58.2.1 r40.1)))), (60, (r70.2.1 (r66.2.1 (r58.2.1 r37.1)))), (49, (r70.2.1 (r66.2.1 (r58.2.1 r29.1)))), (38, (r70.2.1 (r66.2.1 (r58.2.1 r21.1)))), (31, (r70.2.1 (r66.2.1 (r58.2.1 r17.1)))), (16, (r70.2.1 (r66.2.1 (r58.2.1 r5.1)))), (15, (r70.2.1 (r66.2.1 (r58.2.1 r4.1)))), (10, (r70.2.1 (r66.2.1 (r58.2.1 (.v (Go.Value.bool false)))))), (9, (r70.2.1 (r66.2.1 (r58.2.1 r1.1)))), (0, (r70.2.1 (r66.2.1 (r58.2.1 a0)))), (1, (r70.2.1 (r66.2.1 (r58.2.1 a1)))), (2, (r70.2.1 (r66.2.1 (r58.2.1 a2)))), (3, (r70.2.1 (r66.2.1 (r58.2.1 a3)))), (4, (r70.2.1 (r66.2.1 (r58.2.1 a4))))], r73.2⟩)) ((callA E md_l04_do r62.2 15 [(r58.2.1 a0), (r58.2.1 r41.1)]).bind fun r74 =>
  (callA E md_l04_do r74.2 37 [(r58.2.1 a1), r58.1]).bind fun r75 =>
  (pv r75.2 (binA Try.prog .eql 26 r74.1 r75.1)).bind fun r76 =>
  some (.ret, ⟨[(10, r76.1), (93, r62.1), (12, r58.1), (79, (r58.2.1 r50.1)), (11, (r58.2.1 r41.1)), (66, (r58.2.1 r40.1)), (60, (r58.2.1 r37.1)), (49, (r58.2.1 r29.1)), (38, (r58.2.1 r21.1)), (31, (r58.2.1 r17.1)), (16, (r58.2.1 r5.1)), (15, (r58.2.1 r4.1)), (10, (r58.2.1 (.v (Go.Value.bool false)))), (9, (r58.2.1 r1.1)), (0, (r58.2.1 a0)), (1, (r58.2.1 a1)), (2, (r58.2.1 a2)), (3, (r58.2.1 a3)), (4, (r58.2.1 a4))], r76.2⟩))) ((pv r50.2 (litA Try.prog 35 0 [])).bind fun r77 =>
  (appA Try.prog n0 r77.2 35 r77.1 r41.1).bind fun r78 =>
  (pv r78.2.2 (fieldAddrA Try.prog 34 (r78.2.1 r1.1) 1)).bind fun r79 =>
  (pv r79.2 (loadA Try.prog 3 r79.2 r79.1)).bind fun r80 =>
  (pv r80.2 (lenA Try.prog 35 (r78.2.1 r41.1))).bind fun r81 =>
  (pv r81.2 (binA Try.prog .eql 3 r80.1 r81.1)).bind fun r82 =>
  condA r82.1 ((pv r82.2 (fieldAddrA Try.prog 34 (r78.2.1 r1.1) 2)).bind fun r83 =>
  (pv r83.2 (loadA Try.prog 32 r83.2 r83.1)).bind fun r84 =>
  (pv r84.2 (litA Try.prog 35 1 [(0, r84.1)])).bind fun r85 =>
  (appA Try.prog n0 r85.2 35 (r78.2.1 r41.1) r85.1).bind fun r86 =>
  (guardB (freeA (r78.2.1 r41.1) (r86.2.1 r78.1) && (freeA (r78.2.1 r41.1) (r86.2.1 r78.1) && true))).bind fun _ =>
  (pv r86.2.2 (fieldAddrA Try.prog 34 (r86.2.1 (r78.2.1 r1.1)) 2)).bind fun r87 =>
  (guardB (freeA (r78.2.1 r41.1) (r86.2.1 (r78.2.1 r1.1)) && (freeA (r78.2.1 r41.1) r87.1 && true))).bind fun _ =>
  (guardB (apartV (apAd r85.2 (r78.2.1 r41.1)) r87.1 && true)).bind fun _ =>
  (pv r87.2 (loadA Try.prog 32 r87.2 r87.1)).bind fun r88 =>
  (guardB (freeA (r78.2.1 r41.1) r87.1 && (freeA (r78.2.1 r41.1) r88.1 && true))).bind fun _ =>
  (pv r88.2 (litA Try.prog 35 1 [(0, r88.1)])).bind fun r89 =>
  (guardB (freeA (r78.2.1 r41.1) r88.1 && (freeA (r78.2.1 r41.1) r89.1 && true))).bind fun _ =>
  (appA Try.prog n0 r89.2 35 (r86.2.1 r78.1) r89.1).bind fun r90 =>
  (callA E md_l04_do r90.2.2 15 [(r90.2.1 (r86.2.1 (r78.2.1 a0))), (r90.2.1 r86.1)]).bind fun r91 =>
  (callA E md_l04_do r91.2 37 [(r90.2.1 (r86.2.1 (r78.2.1 a1))), r90.1]).bind fun r92 =>
  (pv r92.2 (binA Try.prog .eql 26 r91.1 r92.1)).bind fun r93 =>
  some (.ret, ⟨[(10, r93.1), (12, r90.1), (11, (r90.2.1 r86.1)), (93, (r90.2.1 (r86.2.1 r82.1))), (12, (r90.2.1 (r86.2.1 r78.1))), (79, (r90.2.1 (r86.2.1 (r78.2.1 r50.1)))), (11, (r90.2.1 (r86.2.1 (r78.2.1 r41.1)))), (66, (r90.2.1 (r86.2.1 (r78.2.1 r40.1)))), (60, (r90.2.1 (r86.2.1 (r78.2.1 r37.1)))), (49, (r90.2.1 (r86.2.1 (r78.2.1 r29.1)))), (38, (r90.2.1 (r86.2.1 (r78.2.1 r21.1)))), (31, (r90.2.1 (r86.2.1 (r78.2.1 r17.1)))), (16, (r90.2.1 (r86.2.1 (r78.2.1 r5.1)))), (15, (r90.2.1 (r86.2.1 (r78.2.1 r4.1)))), (10, (r90.2.1 (r86.2.1 (r78.2.1 (.v (Go.Value.bool false)))))), (9, (r90.2.1 (r86.2.1 (r78.2.1 r1.1)))), (0, (r90.2.1 (r86.2.1 (r78.2.1 a0)))), (1, (r90.2.1 (r86.2.1 (r78.2.1 a1)))), (2, (r90.2.1 (r86.2.1 (r78.2.1 a2)))), (3, (r90.2.1 (r86.2.1 (r78.2.1 a3)))), (4, (r90.2.1 (r86.2.1 (r78.2.1 a4))))], r93.2⟩)) ((callA E md_l04_do r82.2 15 [(r78.2.1 a0), (r78.2.1 r41.1)]).bind fun r94 =>
  (callA E md_l04_do r94.2 37 [(r78.2.1 a1), r78.1]).bind fun r95 =>
  (pv r95.2 (binA Try.prog .eql 26 r94.1 r95.1)).bind fun r96 =>
  some (.ret, ⟨[(10, r96.1), (93, r82.1), (12, r78.1), (79, (r78.2.1 r50.1)), (11, (r78.2.1 r41.1)), (66, (r78.2.1 r40.1)), (60, (r78.2.1 r37.1)), (49, (r78.2.1 r29.1)), (38, (r78.2.1 r21.1)), (31, (r78.2.1 r17.1)), (16, (r78.2.1 r5.1)), (15, (r78.2.1 r4.1)), (10, (r78.2.1 (.v (Go.Value.bool false)))), (9, (r78.2.1 r1.1)), (0, (r78.2.1 a0)), (1, (r78.2.1 a1)), (2, (r78.2.1 a2)), (3, (r78.2.1 a3)), (4, (r78.2.1 a4))], r96.2⟩)))) ((pv r40.2 (fieldAddrA Try.prog 34 r1.1 1)).bind fun r97 =>
  (pv r97.2 (loadA Try.prog 3 r97.2 r97.1)).bind fun r98 =>
  (pv r98.2 (fieldAddrA Try.prog 34 r1.1 2)).bind fun r99 =>
  (pv r99.2 (loadA Try.prog 32 r99.2 r99.1)).bind fun r100 =>
  (callA E md_l04_do r100.2 8 [a0, r98.1, r100.1]).bind fun r101 =>
  (pv r101.2 (fieldAddrA Try.prog 34 r1.1 1)).bind fun r102 =>
  (guardB (apartV .ns r102.1 && true)).bind fun _ =>
  (pv r102.2 (loadA Try.prog 3 r102.2 r102.1)).bind fun r103 =>
  (pv r103.2 (fieldAddrA Try.prog 34 r1.1 2)).bind fun r104 =>
  (guardB (apartV .ns r104.1 && true)).bind fun _ =>
  (pv r104.2 (loadA Try.prog 32 r104.2 r104.1)).bind fun r105 =>
  (callA E md_l04_do r105.2 38 [a1, r103.1, r105.1]).bind fun r106 =>
  (pv r106.2 (binA Try.prog .eql 26 r101.1 r106.1)).bind fun r107 =>
  some (.ret, ⟨[(10, r107.1), (66, r40.1), (60, r37.1), (49, r29.1), (38, r21.1), (31, r17.1), (16, r5.1), (15, r4.1), (10, (.v (Go.Value.bool false))), (9, r1.1), (0, a0), (1, a1), (2, a2), (3, a3), (4, a4)], r107.2⟩)))))))
theorem c_l04_do_eq : Try.f22.body = some c_l04_do := by kernel_rfl
theorem d_l04_do : drawsOk Try.prog md_l04_do c_l04_do = true := by kernel_rfl
theorem F_l04_do_eq (E : FnA) (n n0 : Nat) (a0 a1 a2 a3 a4 : AV) (bx : Bx) : evK Try.prog md_l04_do E 124 kp_l04_do n n0 c_l04_do ⟨[(0, a0), (1, a1), (2, a2), (3, a3), (4, a4)], bx⟩ (fun s => some (.normal, s)) (fun i s => some (.exit i, s)) = F_l04_do E n n0 a0 a1 a2 a3 a4 bx := by kernel_rfl

theorem E_l04_do (n : Nat) (a0 a1 a2 a3 a4 : AV) (bx : Bx) : evFn cx0 ext0 (n + 1) 22 [a0, a1, a2, a3, a4] bx = fin Try.prog [.tmp 10] (F_l04_do (evFn cx0 ext0 n) n bx.length a0 a1 a2 a3 a4 bx) := by
  rw [evFn_eq2 (cx := cx0) (c := c_l04_do) rfl Try.func22 c_l04_do_eq (of_decide_eq_true (by kernel_rfl)) d_l04_do (of_decide_eq_true (by kernel_rfl))]
  exact congrArg (fin Try.prog [.tmp 10]) (F_l04_do_eq (evFn cx0 ext0 n) n bx.length a0 a1 a2 a3 a4 bx)

/-- scupper/power.New -/
def kp_power_New : Option (List Nat) := some [0]
noncomputable def c_power_New : Code := Try.f19.body.getD .skip
noncomputable def F_power_New (_E : FnA) (_n _n0 : Nat) (bx : Bx) : Option (Ex × S) :=
  (pv bx (buildA Try.prog 69 [(0, (.v (Go.Value.int Go.IntKind.i64 (-1))))])).bind fun r1 =>
  (boxA r1.2 r1.1).bind fun r2 =>
  some (.ret, ⟨[(0, r2.1), (0, (.v (Go.Value.pointer none)))], r2.2⟩)
theorem c_power_New_eq : Try.f19.body = some c_power_New := by kernel_rfl
theorem d_power_New : drawsOk Try.prog md0 c_power_New = true := by kernel_rfl
theorem F_power_New_eq (E : FnA) (n n0 : Nat) (bx : Bx) : evK Try.prog md0 E 3 kp_power_New n n0 c_power_New ⟨[], bx⟩ (fun s => some (.normal, s)) (fun i s => some (.exit i, s)) = F_power_New E n n0  bx := by kernel_rfl

theorem E_power_New (n : Nat) (bx : Bx) : evFn cx0 ext0 (n + 1) 19 [] bx = fin Try.prog [.tmp 0] (F_power_New (evFn cx0 ext0 n) n bx.length  bx) := by
  rw [evFn_eq2 (cx := cx0) (c := c_power_New) rfl Try.func19 c_power_New_eq (of_decide_eq_true (by kernel_rfl)) d_power_New (of_decide_eq_true (by kernel_rfl))]
  exact congrArg (fin Try.prog [.tmp 0]) (F_power_New_eq (evFn cx0 ext0 n) n bx.length  bx)

/-- (*scupper/power.Supply).Gone -/
def kp_power_Supply_Gone : Option (List Nat) := some [0, 2]
noncomputable def c_power_Supply_Gone : Code := Try.f23.body.getD .skip
noncomputable def F_power_Supply_Gone (_E : FnA) (_n _n0 : Nat) (a0 : AV) (bx : Bx) : Option (Ex × S) :=
  (pv bx (binA Try.prog .neq 47 a0 (.v (Go.Value.pointer none)))).bind fun r1 =>
  (gsel true r1.2 (some (a0, r1.2)) r1.1).bind fun r2 =>
  (gsel true r2.2 (pv r2.2 (nilA r2.1)) r1.1).bind fun r3 =>
  (gsel true r3.2 (pv r3.2 (fieldAddrA Try.prog 69 r3.1 2)) r1.1).bind fun r4 =>
  (gsel true r4.2 (pv r4.2 (loadA Try.prog 4 r4.2 r4.1)) r1.1).bind fun r5 =>
  (pv r5.2 (pickA r1.1 r5.1 (.v (Go.Value.bool false)))).bind fun r6 =>
  some (.ret, ⟨[(2, r6.1), (2, (.v (Go.Value.bool false))), (0, a0)], r6.2⟩)
theorem c_power_Supply_Gone_eq : Try.f23.body = some c_power_Supply_Gone := by kernel_rfl
theorem d_power_Supply_Gone : drawsOk Try.prog md0 c_power_Supply_Gone = true := by kernel_rfl
theorem F_power_Supply_Gone_eq (E : FnA) (n n0 : Nat) (a0 : AV) (bx : Bx) : evK Try.prog md0 E 11 kp_power_Supply_Gone n n0 c_power_Supply_Gone ⟨[(0, a0)], bx⟩ (fun s => some (.normal, s)) (fun i s => some (.exit i, s)) = F_power_Supply_Gone E n n0 a0 bx := by kernel_rfl

theorem E_power_Supply_Gone (n : Nat) (a0 : AV) (bx : Bx) : evFn cx0 ext0 (n + 1) 23 [a0] bx = fin Try.prog [.tmp 2] (F_power_Supply_Gone (evFn cx0 ext0 n) n bx.length a0 bx) := by
  rw [evFn_eq2 (cx := cx0) (c := c_power_Supply_Gone) rfl Try.func23 c_power_Supply_Gone_eq (of_decide_eq_true (by kernel_rfl)) d_power_Supply_Gone (of_decide_eq_true (by kernel_rfl))]
  exact congrArg (fin Try.prog [.tmp 2]) (F_power_Supply_Gone_eq (evFn cx0 ext0 n) n bx.length a0 bx)

/-- (*scupper/power.Supply).Limit -/
def kp_power_Supply_Limit : Option (List Nat) := some [0, 1, 4, 10]
noncomputable def c_power_Supply_Limit : Code := Try.f33.body.getD .skip
noncomputable def F_power_Supply_Limit (_E : FnA) (_n _n0 : Nat) (a0 a1 : AV) (bx : Bx) : Option (Ex × S) :=
  (pv bx (binA Try.prog .eql 47 a0 (.v (Go.Value.pointer none)))).bind fun r1 =>
  (gsel false r1.2 (some (a1, r1.2)) r1.1).bind fun r2 =>
  (gsel false r2.2 (pv r2.2 (binA Try.prog .lss 3 r2.1 (.v (Go.Value.int Go.IntKind.i64 0)))) r1.1).bind fun r3 =>
  (pv r3.2 (pickA r1.1 (.v (Go.Value.bool true)) r3.1)).bind fun r4 =>
  condA r4.1 (some (.ret, ⟨[(4, (.v (Go.Value.int Go.IntKind.i64 2))), (10, r4.1), (4, (.v (Go.Value.int Go.IntKind.i64 0))), (0, a0), (1, a1)], r4.2⟩)) ((pv r4.2 (nilA a0)).bind fun r5 =>
  (pv r5.2 (fieldAddrA Try.prog 69 r5.1 0)).bind fun r6 =>
  (stA Try.prog 3 r6.2 r6.1 a1).bind fun r7 =>
  some (.ret, ⟨[(4, (.v (Go.Value.int Go.IntKind.i64 0))), (10, r4.1), (4, (.v (Go.Value.int Go.IntKind.i64 0))), (0, a0), (1, a1)], r7.2⟩))
theorem c_power_Supply_Limit_eq : Try.f33.body = some c_power_Supply_Limit := by kernel_rfl
theorem d_power_Supply_Limit : drawsOk Try.prog md0 c_power_Supply_Limit = true := by kernel_rfl
theorem F_power_Supply_Limit_eq (E : FnA) (n n0 : Nat) (a0 a1 : AV) (bx : Bx) : evK Try.prog md0 E 15 kp_power_Supply_Limit n n0 c_power_Supply_Limit ⟨[(0, a0), (1, a1)], bx⟩ (fun s => some (.normal, s)) (fun i s => some (.exit i, s)) = F_power_Supply_Limit E n n0 a0 a1 bx := by kernel_rfl

theorem E_power_Supply_Limit (n : Nat) (a0 a1 : AV) (bx : Bx) : evFn cx0 ext0 (n + 1) 33 [a0, a1] bx = fin Try.prog [.tmp 4] (F_power_Supply_Limit (evFn cx0 ext0 n) n bx.length a0 a1 bx) := by
  rw [evFn_eq2 (cx := cx0) (c := c_power_Supply_Limit) rfl Try.func33 c_power_Supply_Limit_eq (of_decide_eq_true (by kernel_rfl)) d_power_Supply_Limit (of_decide_eq_true (by kernel_rfl))]
  exact congrArg (fin Try.prog [.tmp 4]) (F_power_Supply_Limit_eq (evFn cx0 ext0 n) n bx.length a0 a1 bx)

/-- (*scupper/power.Supply).Restore -/
def kp_power_Supply_Restore : Option (List Nat) := some [0, 3]
noncomputable def c_power_Supply_Restore : Code := Try.f35.body.getD .skip
noncomputable def F_power_Supply_Restore (_E : FnA) (_n _n0 : Nat) (a0 : AV) (bx : Bx) : Option (Ex × S) :=
  (pv bx (binA Try.prog .neq 47 a0 (.v (Go.Value.pointer none)))).bind fun r1 =>
  condA r1.1 ((pv r1.2 (nilA a0)).bind fun r2 =>
  (pv r2.2 (fieldAddrA Try.prog 69 r2.1 2)).bind fun r3 =>
  (stA Try.prog 4 r3.2 r3.1 (.v (Go.Value.bool false))).bind fun r4 =>
  (pv r4.2 (nilA a0)).bind fun r5 =>
  (pv r5.2 (fieldAddrA Try.prog 69 r5.1 0)).bind fun r6 =>
  (stA Try.prog 3 r6.2 r6.1 (.v (Go.Value.int Go.IntKind.i64 (-1)))).bind fun r7 =>
  some (.normal, ⟨[(3, r1.1), (0, a0)], r7.2⟩)) (some (.normal, ⟨[(3, r1.1), (0, a0)], r1.2⟩))
theorem c_power_Supply_Restore_eq : Try.f35.body = some c_power_Supply_Restore := by kernel_rfl
theorem d_power_Supply_Restore : drawsOk Try.prog md0 c_power_Supply_Restore = true := by kernel_rfl
theorem F_power_Supply_Restore_eq (E : FnA) (n n0 : Nat) (a0 : AV) (bx : Bx) : evK Try.prog md0 E 10 kp_power_Supply_Restore n n0 c_power_Supply_Restore ⟨[(0, a0)], bx⟩ (fun s => some (.normal, s)) (fun i s => some (.exit i, s)) = F_power_Supply_Restore E n n0 a0 bx := by kernel_rfl

theorem E_power_Supply_Restore (n : Nat) (a0 : AV) (bx : Bx) : evFn cx0 ext0 (n + 1) 35 [a0] bx = fin Try.prog [] (F_power_Supply_Restore (evFn cx0 ext0 n) n bx.length a0 bx) := by
  rw [evFn_eq2 (cx := cx0) (c := c_power_Supply_Restore) rfl Try.func35 c_power_Supply_Restore_eq (of_decide_eq_true (by kernel_rfl)) d_power_Supply_Restore (of_decide_eq_true (by kernel_rfl))]
  exact congrArg (fin Try.prog []) (F_power_Supply_Restore_eq (evFn cx0 ext0 n) n bx.length a0 bx)

/-- scupper/scupperref03.New -/
def kp_r03_New : Option (List Nat) := some [0]
noncomputable def c_r03_New : Code := Try.f20.body.getD .skip
noncomputable def F_r03_New (_E : FnA) (_n _n0 : Nat) (bx : Bx) : Option (Ex × S) :=
  (pv bx (buildA Try.prog 59 [(0, (.v (Go.Value.int Go.IntKind.i64 (-1))))])).bind fun r1 =>
  (boxA r1.2 r1.1).bind fun r2 =>
  some (.ret, ⟨[(0, r2.1), (0, (.v (Go.Value.pointer none)))], r2.2⟩)
theorem c_r03_New_eq : Try.f20.body = some c_r03_New := by kernel_rfl
theorem d_r03_New : drawsOk Try.prog md0 c_r03_New = true := by kernel_rfl
theorem F_r03_New_eq (E : FnA) (n n0 : Nat) (bx : Bx) : evK Try.prog md0 E 3 kp_r03_New n n0 c_r03_New ⟨[], bx⟩ (fun s => some (.normal, s)) (fun i s => some (.exit i, s)) = F_r03_New E n n0  bx := by kernel_rfl

theorem E_r03_New (n : Nat) (bx : Bx) : evFn cx0 ext0 (n + 1) 20 [] bx = fin Try.prog [.tmp 0] (F_r03_New (evFn cx0 ext0 n) n bx.length  bx) := by
  rw [evFn_eq2 (cx := cx0) (c := c_r03_New) rfl Try.func20 c_r03_New_eq (of_decide_eq_true (by kernel_rfl)) d_r03_New (of_decide_eq_true (by kernel_rfl))]
  exact congrArg (fin Try.prog [.tmp 0]) (F_r03_New_eq (evFn cx0 ext0 n) n bx.length  bx)

/-- (*scupper/scupperref03.Supply).Limit -/
def kp_r03_Supply_Limit : Option (List Nat) := some [0, 1, 4, 6]
noncomputable def c_r03_Supply_Limit : Code := Try.f34.body.getD .skip
noncomputable def F_r03_Supply_Limit (_E : FnA) (_n _n0 : Nat) (a0 a1 : AV) (bx : Bx) : Option (Ex × S) :=
  (pv bx (binA Try.prog .lss 3 a1 (.v (Go.Value.int Go.IntKind.i64 0)))).bind fun r1 =>
  condA r1.1 (some (.ret, ⟨[(4, (.v (Go.Value.int Go.IntKind.i64 2))), (6, r1.1), (4, (.v (Go.Value.int Go.IntKind.i64 0))), (0, a0), (1, a1)], r1.2⟩)) ((pv r1.2 (nilA a0)).bind fun r2 =>
  (pv r2.2 (fieldAddrA Try.prog 59 r2.1 0)).bind fun r3 =>
  (stA Try.prog 3 r3.2 r3.1 a1).bind fun r4 =>
  some (.ret, ⟨[(4, (.v (Go.Value.int Go.IntKind.i64 0))), (6, r1.1), (4, (.v (Go.Value.int Go.IntKind.i64 0))), (0, a0), (1, a1)], r4.2⟩))
theorem c_r03_Supply_Limit_eq : Try.f34.body = some c_r03_Supply_Limit := by kernel_rfl
theorem d_r03_Supply_Limit : drawsOk Try.prog md0 c_r03_Supply_Limit = true := by kernel_rfl
theorem F_r03_Supply_Limit_eq (E : FnA) (n n0 : Nat) (a0 a1 : AV) (bx : Bx) : evK Try.prog md0 E 11 kp_r03_Supply_Limit n n0 c_r03_Supply_Limit ⟨[(0, a0), (1, a1)], bx⟩ (fun s => some (.normal, s)) (fun i s => some (.exit i, s)) = F_r03_Supply_Limit E n n0 a0 a1 bx := by kernel_rfl

theorem E_r03_Supply_Limit (n : Nat) (a0 a1 : AV) (bx : Bx) : evFn cx0 ext0 (n + 1) 34 [a0, a1] bx = fin Try.prog [.tmp 4] (F_r03_Supply_Limit (evFn cx0 ext0 n) n bx.length a0 a1 bx) := by
  rw [evFn_eq2 (cx := cx0) (c := c_r03_Supply_Limit) rfl Try.func34 c_r03_Supply_Limit_eq (of_decide_eq_true (by kernel_rfl)) d_r03_Supply_Limit (of_decide_eq_true (by kernel_rfl))]
  exact congrArg (fin Try.prog [.tmp 4]) (F_r03_Supply_Limit_eq (evFn cx0 ext0 n) n bx.length a0 a1 bx)

/-- (*scupper/scupperref03.Supply).Restore -/
def kp_r03_Supply_Restore : Option (List Nat) := some [0]
noncomputable def c_r03_Supply_Restore : Code := Try.f36.body.getD .skip
noncomputable def F_r03_Supply_Restore (_E : FnA) (_n _n0 : Nat) (a0 : AV) (bx : Bx) : Option (Ex × S) :=
  (pv bx (nilA a0)).bind fun r1 =>
  (pv r1.2 (fieldAddrA Try.prog 59 r1.1 2)).bind fun r2 =>
  (stA Try.prog 4 r2.2 r2.1 (.v (Go.Value.bool false))).bind fun r3 =>
  (pv r3.2 (nilA a0)).bind fun r4 =>
  (pv r4.2 (fieldAddrA Try.prog 59 r4.1 0)).bind fun r5 =>
  (stA Try.prog 3 r5.2 r5.1 (.v (Go.Value.int Go.IntKind.i64 (-1)))).bind fun r6 =>
  some (.normal, ⟨[(0, a0)], r6.2⟩)
theorem c_r03_Supply_Restore_eq : Try.f36.body = some c_r03_Supply_Restore := by kernel_rfl
theorem d_r03_Supply_Restore : drawsOk Try.prog md0 c_r03_Supply_Restore = true := by kernel_rfl
theorem F_r03_Supply_Restore_eq (E : FnA) (n n0 : Nat) (a0 : AV) (bx : Bx) : evK Try.prog md0 E 8 kp_r03_Supply_Restore n n0 c_r03_Supply_Restore ⟨[(0, a0)], bx⟩ (fun s => some (.normal, s)) (fun i s => some (.exit i, s)) = F_r03_Supply_Restore E n n0 a0 bx := by kernel_rfl

theorem E_r03_Supply_Restore (n : Nat) (a0 : AV) (bx : Bx) : evFn cx0 ext0 (n + 1) 36 [a0] bx = fin Try.prog [] (F_r03_Supply_Restore (evFn cx0 ext0 n) n bx.length a0 bx) := by
  rw [evFn_eq2 (cx := cx0) (c := c_r03_Supply_Restore) rfl Try.func36 c_r03_Supply_Restore_eq (of_decide_eq_true (by kernel_rfl)) d_r03_Supply_Restore (of_decide_eq_true (by kernel_rfl))]
  exact congrArg (fin Try.prog []) (F_r03_Supply_Restore_eq (evFn cx0 ext0 n) n bx.length a0 bx)

/-- (*scupper/scupperref03.Supply).Use -/
def kp_r03_Supply_Use : Option (List Nat) := some [0, 2, 13, 21]
noncomputable def c_r03_Supply_Use : Code := Try.f41.body.getD .skip
noncomputable def F_r03_Supply_Use (_E : FnA) (_n _n0 : Nat) (a0 : AV) (bx : Bx) : Option (Ex × S) :=
  (pv bx (nilA a0)).bind fun r1 =>
  (pv r1.2 (fieldAddrA Try.prog 59 r1.1 2)).bind fun r2 =>
  (pv r2.2 (loadA Try.prog 4 r2.2 r2.1)).bind fun r3 =>
  (gsel false r3.2 (some (a0, r3.2)) r3.1).bind fun r4 =>
  (gsel false r4.2 (pv r4.2 (nilA r4.1)) r3.1).bind fun r5 =>
  (gsel false r5.2 (pv r5.2 (fieldAddrA Try.prog 59 r5.1 0)) r3.1).bind fun r6 =>
  (gsel false r6.2 (pv r6.2 (loadA Try.prog 3 r6.2 r6.1)) r3.1).bind fun r7 =>
  (gsel false r7.2 (pv r7.2 (binA Try.prog .eql 3 r7.1 (.v (Go.Value.int Go.IntKind.i64 0)))) r3.1).bind fun r8 =>
  (pv r8.2 (pickA r3.1 (.v (Go.Value.bool true)) r8.1)).bind fun r9 =>
  condA r9.1 ((pv r9.2 (nilA a0)).bind fun r10 =>
  (pv r10.2 (fieldAddrA Try.prog 59 r10.1 2)).bind fun r11 =>
  (stA Try.prog 4 r11.2 r11.1 (.v (Go.Value.bool true))).bind fun r12 =>
  some (.ret, ⟨[(2, (.v (Go.Value.int Go.IntKind.i64 20))), (13, r9.1), (2, (.v (Go.Value.int Go.IntKind.i64 0))), (0, a0)], r12.2⟩)) ((pv r9.2 (nilA a0)).bind fun r13 =>
  (pv r13.2 (fieldAddrA Try.prog 59 r13.1 0)).bind fun r14 =>
  (pv r14.2 (loadA Try.prog 3 r14.2 r14.1)).bind fun r15 =>
  (pv r15.2 (binA Try.prog .gtr 3 r15.1 (.v (Go.Value.int Go.IntKind.i64 0)))).bind fun r16 =>
  condA r16.1 ((pv r16.2 (nilA a0)).bind fun r17 =>
  (pv r17.2 (fieldAddrA Try.prog 59 r17.1 0)).bind fun r18 =>
  (pv r18.2 (loadA Try.prog 3 r18.2 r18.1)).bind fun r19 =>
  (pv r19.2 (binA Try.prog .sub 3 r19.1 (.v (Go.Value.int Go.IntKind.i64 1)))).bind fun r20 =>
  (pv r20.2 (nilA a0)).bind fun r21 =>
  (pv r21.2 (fieldAddrA Try.prog 59 r21.1 0)).bind fun r22 =>
  (stA Try.prog 3 r22.2 r22.1 r20.1).bind fun r23 =>
  (pv r23.2 (nilA a0)).bind fun r24 =>
  (pv r24.2 (fieldAddrA Try.prog 59 r24.1 1)).bind fun r25 =>
  (pv r25.2 (loadA Try.prog 3 r25.2 r25.1)).bind fun r26 =>
  (pv r26.2 (binA Try.prog .add 3 r26.1 (.v (Go.Value.int Go.IntKind.i64 1)))).bind fun r27 =>
  (pv r27.2 (nilA a0)).bind fun r28 =>
  (pv r28.2 (fieldAddrA Try.prog 59 r28.1 1)).bind fun r29 =>
  (stA Try.prog 3 r29.2 r29.1 r27.1).bind fun r30 =>
  some (.ret, ⟨[(2, (.v (Go.Value.int Go.IntKind.i64 0))), (21, r16.1), (13, r9.1), (2, (.v (Go.Value.int Go.IntKind.i64 0))), (0, a0)], r30.2⟩)) ((pv r16.2 (nilA a0)).bind fun r31 =>
  (pv r31.2 (fieldAddrA Try.prog 59 r31.1 1)).bind fun r32 =>
  (pv r32.2 (loadA Try.prog 3 r32.2 r32.1)).bind fun r33 =>
  (pv r33.2 (binA Try.prog .add 3 r33.1 (.v (Go.Value.int Go.IntKind.i64 1)))).bind fun r34 =>
  (pv r34.2 (nilA a0)).bind fun r35 =>
  (pv r35.2 (fieldAddrA Try.prog 59 r35.1 1)).bind fun r36 =>
  (stA Try.prog 3 r36.2 r36.1 r34.1).bind fun r37 =>
  some (.ret, ⟨[(2, (.v (Go.Value.int Go.IntKind.i64 0))), (21, r16.1), (13, r9.1), (2, (.v (Go.Value.int Go.IntKind.i64 0))), (0, a0)], r37.2⟩)))
theorem c_r03_Supply_Use_eq : Try.f41.body = some c_r03_Supply_Use := by kernel_rfl
theorem d_r03_Supply_Use : drawsOk Try.prog md0 c_r03_Supply_Use = true := by kernel_rfl
theorem F_r03_Supply_Use_eq (E : FnA) (n n0 : Nat) (a0 : AV) (bx : Bx) : evK Try.prog md0 E 36 kp_r03_Supply_Use n n0 c_r03_Supply_Use ⟨[(0, a0)], bx⟩ (fun s => some (.normal, s)) (fun i s => some (.exit i, s)) = F_r03_Supply_Use E n n0 a0 bx := by kernel_rfl

theorem E_r03_Supply_Use (n : Nat) (a0 : AV) (bx : Bx) : evFn cx0 ext0 (n + 1) 41 [a0] bx = fin Try.prog [.tmp 2] (F_r03_Supply_Use (evFn cx0 ext0 n) n bx.length a0 bx) := by
  rw [evFn_eq2 (cx := cx0) (c := c_r03_Supply_Use) rfl Try.func41 c_r03_Supply_Use_eq (of_decide_eq_true (by kernel_rfl)) d_r03_Supply_Use (of_decide_eq_true (by kernel_rfl))]
  exact congrArg (fin Try.prog [.tmp 2]) (F_r03_Supply_Use_eq (evFn cx0 ext0 n) n bx.length a0 bx)

/-- (*scupper/scupperref04.Disk).Read -/
def kp_r04_Disk_Read : Option (List Nat) := some [0, 1, 4, 5, 6, 10, 21]
noncomputable def c_r04_Disk_Read : Code := Try.f24.body.getD .skip
noncomputable def F_r04_Disk_Read (E : FnA) (_n _n0 : Nat) (a0 a1 : AV) (bx : Bx) : Option (Ex × S) :=
  (allocA Try.prog bx 32).bind fun r1 =>
  (callA E md0 r1.2 39 [a0, a1]).bind fun r2 =>
  (pv r2.2 (unA .not r2.1)).bind fun r3 =>
  condA r3.1 ((pv r3.2 (buildA Try.prog 32 [])).bind fun r4 =>
  (stA Try.prog 32 r4.2 r1.1 r4.1).bind fun r5 =>
  some (.ret, ⟨[(5, (.v (Go.Value.int Go.IntKind.i64 2))), (10, r3.1), (5, (.v (Go.Value.int Go.IntKind.i64 0))), (4, r1.1), (0, a0), (1, a1)], r5.2⟩)) ((pv r3.2 (nilA a0)).bind fun r6 =>
  (pv r6.2 (fieldAddrA Try.prog 57 r6.1 2)).bind fun r7 =>
  (pv r7.2 (loadA Try.prog 55 r7.2 r7.1)).bind fun r8 =>
  (pv r8.2 (indexAddrA Try.prog 55 r8.1 a1)).bind fun r9 =>
  (pv r9.2 (loadA Try.prog 35 r9.2 r9.1)).bind fun r10 =>
  (pv r10.2 (lenA Try.prog 35 r10.1)).bind fun r11 =>
  (pv r11.2 (binA Try.prog .gtr 3 r11.1 (.v (Go.Value.int Go.IntKind.i64 0)))).bind fun r12 =>
  condA r12.1 ((pv r12.2 (nilA a0)).bind fun r13 =>
  (pv r13.2 (fieldAddrA Try.prog 57 r13.1 2)).bind fun r14 =>
  (pv r14.2 (loadA Try.prog 55 r14.2 r14.1)).bind fun r15 =>
  (pv r15.2 (indexAddrA Try.prog 55 r15.1 a1)).bind fun r16 =>
  (pv r16.2 (loadA Try.prog 35 r16.2 r16.1)).bind fun r17 =>
  (pv r17.2 (binA Try.prog .sub 3 r11.1 (.v (Go.Value.int Go.IntKind.i64 1)))).bind fun r18 =>
  (pv r18.2 (indexAddrA Try.prog 35 r17.1 r18.1)).bind fun r19 =>
  (pv r19.2 (loadA Try.prog 32 r19.2 r19.1)).bind fun r20 =>
  (stA Try.prog 32 r20.2 r1.1 r20.1).bind fun r21 =>
  some (.ret, ⟨[(5, (.v (Go.Value.int Go.IntKind.i64 0))), (21, r12.1), (6, r11.1), (10, r3.1), (5, (.v (Go.Value.int Go.IntKind.i64 0))), (4, r1.1), (0, a0), (1, a1)], r21.2⟩)) ((pv r12.2 (nilA a0)).bind fun r22 =>
  (pv r22.2 (fieldAddrA Try.prog 57 r22.1 1)).bind fun r23 =>
  (pv r23.2 (loadA Try.prog 35 r23.2 r23.1)).bind fun r24 =>
  (pv r24.2 (indexAddrA Try.prog 35 r24.1 a1)).bind fun r25 =>
  (pv r25.2 (loadA Try.prog 32 r25.2 r25.1)).bind fun r26 =>
  (stA Try.prog 32 r26.2 r1.1 r26.1).bind fun r27 =>
  some (.ret, ⟨[(5, (.v (Go.Value.int Go.IntKind.i64 0))), (21, r12.1), (6, r11.1), (10, r3.1), (5, (.v (Go.Value.int Go.IntKind.i64 0))), (4, r1.1), (0, a0), (1, a1)], r27.2⟩)))
theorem c_r04_Disk_Read_eq : Try.f24.body = some c_r04_Disk_Read := by kernel_rfl
theorem d_r04_Disk_Read : drawsOk Try.prog md0 c_r04_Disk_Read = true := by kernel_rfl
theorem F_r04_Disk_Read_eq (E : FnA) (n n0 : Nat) (a0 a1 : AV) (bx : Bx) : evK Try.prog md0 E 40 kp_r04_Disk_Read n n0 c_r04_Disk_Read ⟨[(0, a0), (1, a1)], bx⟩ (fun s => some (.normal, s)) (fun i s => some (.exit i, s)) = F_r04_Disk_Read E n n0 a0 a1 bx := by kernel_rfl

theorem E_r04_Disk_Read (n : Nat) (a0 a1 : AV) (bx : Bx) : evFn cx0 ext0 (n + 1) 24 [a0, a1] bx = fin Try.prog [.cell 4 32, .tmp 5] (F_r04_Disk_Read (evFn cx0 ext0 n) n bx.length a0 a1 bx) := by
  rw [evFn_eq2 (cx := cx0) (c := c_r04_Disk_Read) rfl Try.func24 c_r04_Disk_Read_eq (of_decide_eq_true (by kernel_rfl)) d_r04_Disk_Read (of_decide_eq_true (by kernel_rfl))]
  exact congrArg (fin Try.prog [.cell 4 32, .tmp 5]) (F_r04_Disk_Read_eq (evFn cx0 ext0 n) n bx.length a0 a1 bx)

/-- (*scupper/scupperref04.Disk).Force -/
def kp_r04_Disk_Force : Option (List Nat) := some [0, 1, 2, 5, 6, 7, 11, 18]
noncomputable def c_r04_Disk_Force : Code := Try.f29.body.getD .skip
noncomputable def F_r04_Disk_Force (E : FnA) (_n _n0 : Nat) (a0 a1 a2 : AV) (bx : Bx) : Option (Ex × S) :=
  (boxA bx a2).bind fun r1 =>
  (callA E md_r04_Disk_Force r1.2 39 [a0, a1]).bind fun r2 =>
  (pv r2.2 (unA .not r2.1)).bind fun r3 =>
  condA r3.1 (some (.ret, ⟨[(6, (.v (Go.Value.int Go.IntKind.i64 2))), (11, r3.1), (6, (.v (Go.Value.int Go.IntKind.i64 0))), (5, r1.1), (0, a0), (1, a1), (2, a2)], r3.2⟩)) ((pv r3.2 (nilA a0)).bind fun r4 =>
  (pv r4.2 (fieldAddrA Try.prog 57 r4.1 0)).bind fun r5 =>
  (pv r5.2 (loadA Try.prog 49 r5.2 r5.1)).bind fun r6 =>
  (callA E md_r04_Disk_Force r6.2 41 [r6.1]).bind fun r7 =>
  (pv r7.2 (binA Try.prog .neq 26 r7.1 (.v (Go.Value.int Go.IntKind.i64 0)))).bind fun r8 =>
  condA r8.1 (some (.ret, ⟨[(6, r7.1), (18, r8.1), (7, r7.1), (11, r3.1), (6, (.v (Go.Value.int Go.IntKind.i64 0))), (5, r1.1), (0, a0), (1, a1), (2, a2)], r8.2⟩)) ((pv r8.2 (nilA a0)).bind fun r9 =>
  (pv r9.2 (fieldAddrA Try.prog 57 r9.1 1)).bind fun r10 =>
  (pv r10.2 (loadA Try.prog 35 r10.2 r10.1)).bind fun r11 =>
  (pv r11.2 (nilA a0)).bind fun r12 =>
  (pv r12.2 (fieldAddrA Try.prog 57 r12.1 2)).bind fun r13 =>
  (pv r13.2 (loadA Try.prog 55 r13.2 r13.1)).bind fun r14 =>
  (pv r14.2 (loadA Try.prog 32 r14.2 r1.1)).bind fun r15 =>
  (pv r15.2 (indexAddrA Try.prog 35 r11.1 a1)).bind fun r16 =>
  (stA Try.prog 32 r16.2 r16.1 r15.1).bind fun r17 =>
  (pv r17.2 (indexAddrA Try.prog 55 r14.1 a1)).bind fun r18 =>
  (stA Try.prog 35 r18.2 r18.1 (.v (Go.Value.slice none 0 0))).bind fun r19 =>
  (pv r19.2 (nilA a0)).bind fun r20 =>
  (pv r20.2 (fieldAddrA Try.prog 57 r20.1 3)).bind fun r21 =>
  (pv r21.2 (loadA Try.prog 3 r21.2 r21.1)).bind fun r22 =>
  (pv r22.2 (binA Try.prog .add 3 r22.1 (.v (Go.Value.int Go.IntKind.i64 1)))).bind fun r23 =>
  (pv r23.2 (nilA a0)).bind fun r24 =>
  (pv r24.2 (fieldAddrA Try.prog 57 r24.1 3)).bind fun r25 =>
  (stA Try.prog 3 r25.2 r25.1 r23.1).bind fun r26 =>
  some (.ret, ⟨[(6, (.v (Go.Value.int Go.IntKind.i64 0))), (18, r8.1), (7, r7.1), (11, r3.1), (6, (.v (Go.Value.int Go.IntKind.i64 0))), (5, r1.1), (0, a0), (1, a1), (2, a2)], r26.2⟩)))
theorem c_r04_Disk_Force_eq : Try.f29.body = some c_r04_Disk_Force := by kernel_rfl
theorem d_r04_Disk_Force : drawsOk Try.prog md_r04_Disk_Force c_r04_Disk_Force = true := by kernel_rfl
theorem F_r04_Disk_Force_eq (E : FnA) (n n0 : Nat) (a0 a1 a2 : AV) (bx : Bx) : evK Try.prog md_r04_Disk_Force E 40 kp_r04_Disk_Force n n0 c_r04_Disk_Force ⟨[(0, a0), (1, a1), (2, a2)], bx⟩ (fun s => some (.normal, s)) (fun i s => some (.exit i, s)) = F_r04_Disk_Force E n n0 a0 a1 a2 bx := by kernel_rfl

theorem E_r04_Disk_Force (n : Nat) (a0 a1 a2 : AV) (bx : Bx) : evFn cx0 ext0 (n + 1) 29 [a0, a1, a2] bx = fin Try.prog [.tmp 6] (F_r04_Disk_Force (evFn cx0 ext0 n) n bx.length a0 a1 a2 bx) := by
  rw [evFn_eq2 (cx := cx0) (c := c_r04_Disk_Force) rfl Try.func29 c_r04_Disk_Force_eq (of_decide_eq_true (by kernel_rfl)) d_r04_Disk_Force (of_decide_eq_true (by kernel_rfl))]
  exact congrArg (fin Try.prog [.tmp 6]) (F_r04_Disk_Force_eq (evFn cx0 ext0 n) n bx.length a0 a1 a2 bx)

/-- (*scupper/scupperref04.Disk).Flush -/
def kp_r04_Disk_Flush : Option (List Nat) := some [1000000, 0, 2, 3, 4, 11, 28]
noncomputable def c_r04_Disk_Flush : Code := Try.f30.body.getD .skip
noncomputable def L_r04_Disk_Flush_0 (E : FnA) (_n _n0 : Nat) (s : S) : Option (Ex × S) :=
  (pv s.bx (nilA (get s.env 0))).bind fun r33 =>
  (pv r33.2 (fieldAddrA Try.prog 57 r33.1 1)).bind fun r34 =>
  (pv r34.2 (loadA Try.prog 35 r34.2 r34.1)).bind fun r35 =>
  (pv r35.2 (lenA Try.prog 35 r35.1)).bind fun r36 =>
  (pv r36.2 (binA Try.prog .lss 3 (get s.env 4) r36.1)).bind fun r37 =>
  (gsel true r37.2 (some ((get s.env 4), r37.2)) r37.1).bind fun r38 =>
  (gsel true r38.2 (some ((get s.env 0), r38.2)) r37.1).bind fun r39 =>
  (gsel true r39.2 (pv r39.2 (nilA r39.1)) r37.1).bind fun r40 =>
  (gsel true r40.2 (pv r40.2 (fieldAddrA Try.prog 57 r40.1 2)) r37.1).bind fun r41 =>
  (gsel true r41.2 (pv r41.2 (loadA Try.prog 55 r41.2 r41.1)) r37.1).bind fun r42 =>
  (gsel true r42.2 (pv r42.2 (lenA Try.prog 55 r42.1)) r37.1).bind fun r43 =>
  (gsel true r43.2 (pv r43.2 (binA Try.prog .lss 3 r38.1 r43.1)) r37.1).bind fun r44 =>
  (pv r44.2 (pickA r37.1 r44.1 (.v (Go.Value.bool false)))).bind fun r45 =>
  condA r45.1 ((pv r45.2 (nilA (get (prune kp_r04_Disk_Flush s.env) 0))).bind fun r46 =>
  (pv r46.2 (fieldAddrA Try.prog 57 r46.1 1)).bind fun r47 =>
  (pv r47.2 (loadA Try.prog 35 r47.2 r47.1)).bind fun r48 =>
  (callA E md_r04_Disk_Flush r48.2 24 [(get (prune kp_r04_Disk_Flush s.env) 0), (get (prune kp_r04_Disk_Flush s.env) 4)]).bind fun r49 =>
  (pv r49.2 (tupA r49.1 0)).bind fun r50 =>
  (pv r50.2 (tupA r49.1 1)).bind fun r51 =>
  (pv r51.2 (indexAddrA Try.prog 35 r48.1 (get (prune kp_r04_Disk_Flush s.env) 4))).bind fun r52 =>
  (stA Try.prog 32 r52.2 r52.1 r50.1).bind fun r53 =>
  (pv r53.2 (nilA (get (prune kp_r04_Disk_Flush (prune kp_r04_Disk_Flush s.env)) 0))).bind fun r54 =>
  (pv r54.2 (fieldAddrA Try.prog 57 r54.1 2)).bind fun r55 =>
  (pv r55.2 (loadA Try.prog 55 r55.2 r55.1)).bind fun r56 =>
  (pv r56.2 (indexAddrA Try.prog 55 r56.1 (get (prune kp_r04_Disk_Flush (prune kp_r04_Disk_Flush s.env)) 4))).bind fun r57 =>
  (stA Try.prog 35 r57.2 r57.1 (.v (Go.Value.slice none 0 0))).bind fun r58 =>
  (pv r58.2 (binA Try.prog .add 3 (get (prune kp_r04_Disk_Flush (prune kp_r04_Disk_Flush (prune kp_r04_Disk_Flush s.env))) 4) (.v (Go.Value.int Go.IntKind.i64 1)))).bind fun r59 =>
  some (.normal, ⟨((4, r59.1) :: (28, r45.1) :: (prune kp_r04_Disk_Flush (prune kp_r04_Disk_Flush (prune kp_r04_Disk_Flush (prune kp_r04_Disk_Flush s.env))))), r59.2⟩)) (some (.exit 0, ⟨((28, r45.1) :: (prune kp_r04_Disk_Flush s.env)), r45.2⟩))
noncomputable def B_r04_Disk_Flush_0 (E : FnA) (_n _n0 : Nat) (x4 x11 x3 x2 x0 : AV) (y : Bx) : Option (Ex × S) :=
  (pv y (nilA x0)).bind fun r6 =>
  (pv r6.2 (fieldAddrA Try.prog 57 r6.1 1)).bind fun r7 =>
  (pv r7.2 (loadA Try.prog 35 r7.2 r7.1)).bind fun r8 =>
  (pv r8.2 (lenA Try.prog 35 r8.1)).bind fun r9 =>
  (pv r9.2 (binA Try.prog .lss 3 x4 r9.1)).bind fun r10 =>
  (gsel true r10.2 (some (x4, r10.2)) r10.1).bind fun r11 =>
  (gsel true r11.2 (some (x0, r11.2)) r10.1).bind fun r12 =>
  (gsel true r12.2 (pv r12.2 (nilA r12.1)) r10.1).bind fun r13 =>
  (gsel true r13.2 (pv r13.2 (fieldAddrA Try.prog 57 r13.1 2)) r10.1).bind fun r14 =>
  (gsel true r14.2 (pv r14.2 (loadA Try.prog 55 r14.2 r14.1)) r10.1).bind fun r15 =>
  (gsel true r15.2 (pv r15.2 (lenA Try.prog 55 r15.1)) r10.1).bind fun r16 =>
  (gsel true r16.2 (pv r16.2 (binA Try.prog .lss 3 r11.1 r16.1)) r10.1).bind fun r17 =>
  (pv r17.2 (pickA r10.1 r17.1 (.v (Go.Value.bool false)))).bind fun r18 =>
  condA r18.1 ((pv r18.2 (nilA x0)).bind fun r19 =>
  (pv r19.2 (fieldAddrA Try.prog 57 r19.1 1)).bind fun r20 =>
  (pv r20.2 (loadA Try.prog 35 r20.2 r20.1)).bind fun r21 =>
  (callA E md_r04_Disk_Flush r21.2 24 [x0, x4]).bind fun r22 =>
  (pv r22.2 (tupA r22.1 0)).bind fun r23 =>
  (pv r23.2 (tupA r22.1 1)).bind fun r24 =>
  (pv r24.2 (indexAddrA Try.prog 35 r21.1 x4)).bind fun r25 =>
  (stA Try.prog 32 r25.2 r25.1 r23.1).bind fun r26 =>
  (pv r26.2 (nilA x0)).bind fun r27 =>
  (pv r27.2 (fieldAddrA Try.prog 57 r27.1 2)).bind fun r28 =>
  (pv r28.2 (loadA Try.prog 55 r28.2 r28.1)).bind fun r29 =>
  (pv r29.2 (indexAddrA Try.prog 55 r29.1 x4)).bind fun r30 =>
  (stA Try.prog 35 r30.2 r30.1 (.v (Go.Value.slice none 0 0))).bind fun r31 =>
  (pv r31.2 (binA Try.prog .add 3 x4 (.v (Go.Value.int Go.IntKind.i64 1)))).bind fun r32 =>
  some (.normal, ⟨[(4, r32.1), (28, r18.1), (4, x4), (11, x11), (3, x3), (2, x2), (0, x0)], r32.2⟩)) (some (.exit 0, ⟨[(28, r18.1), (4, x4), (11, x11), (3, x3), (2, x2), (0, x0)], r18.2⟩))
theorem L_r04_Disk_Flush_0_lit {E : FnA} {n n0 : Nat} {x4 x11 x3 x2 x0 : AV} {y : Bx} {Q : Ex → S → Prop} (h : Ends (B_r04_Disk_Flush_0 E n n0 x4 x11 x3 x2 x0 y) Q) : Ends (L_r04_Disk_Flush_0 E n n0 ⟨[(4, x4), (11, x11), (3, x3), (2, x2), (0, x0)], y⟩) Q := by
  rw [show L_r04_Disk_Flush_0 E n n0 ⟨[(4, x4), (11, x11), (3, x3), (2, x2), (0, x0)], y⟩ = B_r04_Disk_Flush_0 E n n0 x4 x11 x3 x2 x0 y by kernel_rfl]
  exact h
noncomputable def K_r04_Disk_Flush_0 (_E : FnA) (_n _n0 : Nat) (t : S) : Option (Ex × S) :=
  some (.ret, ⟨((2, (.v (Go.Value.int Go.IntKind.i64 0))) :: (prune kp_r04_Disk_Flush t.env)), t.bx⟩)
noncomputable def X_r04_Disk_Flush_0 (_E : FnA) (_n _n0 : Nat) (i : Nat) (t : S) : Option (Ex × S) :=
  if i = 0 then some (.ret, ⟨((2, (.v (Go.Value.int Go.IntKind.i64 0))) :: (prune kp_r04_Disk_Flush t.env)), t.bx⟩) else some (.exit i, ⟨t.env, t.bx⟩)
noncomputable def X_r04_Disk_Flush_0_0 (_E : FnA) (_n _n0 : Nat) (x28 x4 x11 x3 x2 x0 : AV) (y : Bx) : Option (Ex × S) :=
  some (.ret, ⟨[(2, (.v (Go.Value.int Go.IntKind.i64 0))), (28, x28), (4, x4), (11, x11), (3, x3), (2, x2), (0, x0)], y⟩)
theorem X_r04_Disk_Flush_0_0_lit {E : FnA} {n n0 : Nat} {x28 x4 x11 x3 x2 x0 : AV} {y : Bx} {Q : Ex → S → Prop} (h : Ends (X_r04_Disk_Flush_0_0 E n n0 x28 x4 x11 x3 x2 x0 y) Q) : Ends (X_r04_Disk_Flush_0 E n n0 0 ⟨[(28, x28), (4, x4), (11, x11), (3, x3), (2, x2), (0, x0)], y⟩) Q := by
  rw [show X_r04_Disk_Flush_0 E n n0 0 ⟨[(28, x28), (4, x4), (11, x11), (3, x3), (2, x2), (0, x0)], y⟩ = X_r04_Disk_Flush_0_0 E n n0 x28 x4 x11 x3 x2 x0 y by kernel_rfl]
  exact h
noncomputable def F_r04_Disk_Flush (E : FnA) (n n0 : Nat) (a0 : AV) (bx : Bx) : Option (Ex × S) :=
  (pv bx (nilA a0)).bind fun r1 =>
  (pv r1.2 (fieldAddrA Try.prog 57 r1.1 0)).bind fun r2 =>
  (pv r2.2 (loadA Try.prog 49 r2.2 r2.1)).bind fun r3 =>
  (callA E md_r04_Disk_Flush r3.2 41 [r3.1]).bind fun r4 =>
  (pv r4.2 (binA Try.prog .neq 26 r4.1 (.v (Go.Value.int Go.IntKind.i64 0)))).bind fun r5 =>
  condA r5.1 (some (.ret, ⟨[(2, r4.1), (11, r5.1), (3, r4.1), (2, (.v (Go.Value.int Go.IntKind.i64 0))), (0, a0)], r5.2⟩)) (exitA (iter (headK ⟨[(4, (.v (Go.Value.int Go.IntKind.i64 0))), (11, r5.1), (3, r4.1), (2, (.v (Go.Value.int Go.IntKind.i64 0))), (0, a0)], r5.2⟩) (L_r04_Disk_Flush_0 E n n0) n ⟨[(4, (.v (Go.Value.int Go.IntKind.i64 0))), (11, r5.1), (3, r4.1), (2, (.v (Go.Value.int Go.IntKind.i64 0))), (0, a0)], r5.2⟩) (K_r04_Disk_Flush_0 E n n0) (X_r04_Disk_Flush_0 E n n0))
theorem c_r04_Disk_Flush_eq : Try.f30.body = some c_r04_Disk_Flush := by kernel_rfl
theorem d_r04_Disk_Flush : drawsOk Try.prog md_r04_Disk_Flush c_r04_Disk_Flush = true := by kernel_rfl
theorem F_r04_Disk_Flush_eq (E : FnA) (n n0 : Nat) (a0 : AV) (bx : Bx) : evK Try.prog md_r04_Disk_Flush E 49 kp_r04_Disk_Flush n n0 c_r04_Disk_Flush ⟨[(0, a0)], bx⟩ (fun s => some (.normal, s)) (fun i s => some (.exit i, s)) = F_r04_Disk_Flush E n n0 a0 bx := by kernel_rfl

theorem E_r04_Disk_Flush (n : Nat) (a0 : AV) (bx : Bx) : evFn cx0 ext0 (n + 1) 30 [a0] bx = fin Try.prog [.tmp 2] (F_r04_Disk_Flush (evFn cx0 ext0 n) n bx.length a0 bx) := by
  rw [evFn_eq2 (cx := cx0) (c := c_r04_Disk_Flush) rfl Try.func30 c_r04_Disk_Flush_eq (of_decide_eq_true (by kernel_rfl)) d_r04_Disk_Flush (of_decide_eq_true (by kernel_rfl))]
  exact congrArg (fin Try.prog [.tmp 2]) (F_r04_Disk_Flush_eq (evFn cx0 ext0 n) n bx.length a0 bx)

/-- (*scupper/scupperref04.Disk).Crash -/
def kp_r04_Disk_Crash : Option (List Nat) := some [1000000, 0, 1, 4, 5, 21, 27, 43]
noncomputable def c_r04_Disk_Crash : Code := Try.f32.body.getD .skip
noncomputable def L_r04_Disk_Crash_0 (_E : FnA) (_n _n0 : Nat) (s : S) : Option (Ex × S) :=
  (pv s.bx (nilA (get s.env 0))).bind fun r78 =>
  (pv r78.2 (fieldAddrA Try.prog 57 r78.1 1)).bind fun r79 =>
  (pv r79.2 (loadA Try.prog 35 r79.2 r79.1)).bind fun r80 =>
  (pv r80.2 (lenA Try.prog 35 r80.1)).bind fun r81 =>
  (pv r81.2 (binA Try.prog .lss 3 (get s.env 4) r81.1)).bind fun r82 =>
  (gsel true r82.2 (some ((get s.env 4), r82.2)) r82.1).bind fun r83 =>
  (gsel true r83.2 (some ((get s.env 0), r83.2)) r82.1).bind fun r84 =>
  (gsel true r84.2 (pv r84.2 (nilA r84.1)) r82.1).bind fun r85 =>
  (gsel true r85.2 (pv r85.2 (fieldAddrA Try.prog 57 r85.1 2)) r82.1).bind fun r86 =>
  (gsel true r86.2 (pv r86.2 (loadA Try.prog 55 r86.2 r86.1)) r82.1).bind fun r87 =>
  (gsel true r87.2 (pv r87.2 (lenA Try.prog 55 r87.1)) r82.1).bind fun r88 =>
  (gsel true r88.2 (pv r88.2 (binA Try.prog .lss 3 r83.1 r88.1)) r82.1).bind fun r89 =>
  (pv r89.2 (pickA r82.1 r89.1 (.v (Go.Value.bool false)))).bind fun r90 =>
  condA r90.1 ((pv r90.2 (lenA Try.prog 23 (get (prune kp_r04_Disk_Crash (prune kp_r04_Disk_Crash s.env)) 1))).bind fun r91 =>
  (pv r91.2 (binA Try.prog .lss 3 (get (prune kp_r04_Disk_Crash (prune kp_r04_Disk_Crash s.env)) 4) r91.1)).bind fun r92 =>
  condA r92.1 ((pv r92.2 (indexAddrA Try.prog 23 (get (prune kp_r04_Disk_Crash (prune kp_r04_Disk_Crash (prune kp_r04_Disk_Crash s.env))) 1) (get (prune kp_r04_Disk_Crash (prune kp_r04_Disk_Crash (prune kp_r04_Disk_Crash s.env))) 4))).bind fun r93 =>
  (pv r93.2 (loadA Try.prog 3 r93.2 r93.1)).bind fun r94 =>
  (pv r94.2 (minL true r94.1 [(.v (Go.Value.int Go.IntKind.i64 0))])).bind fun r95 =>
  (pv r95.2 (nilA (get (prune kp_r04_Disk_Crash (prune kp_r04_Disk_Crash (prune kp_r04_Disk_Crash s.env))) 0))).bind fun r96 =>
  (pv r96.2 (fieldAddrA Try.prog 57 r96.1 2)).bind fun r97 =>
  (pv r97.2 (loadA Try.prog 55 r97.2 r97.1)).bind fun r98 =>
  (pv r98.2 (indexAddrA Try.prog 55 r98.1 (get (prune kp_r04_Disk_Crash (prune kp_r04_Disk_Crash (prune kp_r04_Disk_Crash s.env))) 4))).bind fun r99 =>
  (pv r99.2 (loadA Try.prog 35 r99.2 r99.1)).bind fun r100 =>
  (pv r100.2 (lenA Try.prog 35 r100.1)).bind fun r101 =>
  (pv r101.2 (minL false r95.1 [r101.1])).bind fun r102 =>
  (pv r102.2 (binA Try.prog .gtr 3 r102.1 (.v (Go.Value.int Go.IntKind.i64 0)))).bind fun r103 =>
  condA r103.1 ((pv r103.2 (nilA (get (prune kp_r04_Disk_Crash (prune kp_r04_Disk_Crash (prune kp_r04_Disk_Crash (prune kp_r04_Disk_Crash (prune kp_r04_Disk_Crash s.env))))) 0))).bind fun r104 =>
  (pv r104.2 (fieldAddrA Try.prog 57 r104.1 1)).bind fun r105 =>
  (pv r105.2 (loadA Try.prog 35 r105.2 r105.1)).bind fun r106 =>
  (pv r106.2 (nilA (get (prune kp_r04_Disk_Crash (prune kp_r04_Disk_Crash (prune kp_r04_Disk_Crash (prune kp_r04_Disk_Crash (prune kp_r04_Disk_Crash s.env))))) 0))).bind fun r107 =>
  (pv r107.2 (fieldAddrA Try.prog 57 r107.1 2)).bind fun r108 =>
  (pv r108.2 (loadA Try.prog 55 r108.2 r108.1)).bind fun r109 =>
  (pv r109.2 (indexAddrA Try.prog 55 r109.1 (get (prune kp_r04_Disk_Crash (prune kp_r04_Disk_Crash (prune kp_r04_Disk_Crash (prune kp_r04_Disk_Crash (prune kp_r04_Disk_Crash s.env))))) 4))).bind fun r110 =>
  (pv r110.2 (loadA Try.prog 35 r110.2 r110.1)).bind fun r111 =>
  (pv r111.2 (binA Try.prog .sub 3 r102.1 (.v (Go.Value.int Go.IntKind.i64 1)))).bind fun r112 =>
  (pv r112.2 (indexAddrA Try.prog 35 r111.1 r112.1)).bind fun r113 =>
  (pv r113.2 (loadA Try.prog 32 r113.2 r113.1)).bind fun r114 =>
  (pv r114.2 (indexAddrA Try.prog 35 r106.1 (get (prune kp_r04_Disk_Crash (prune kp_r04_Disk_Crash (prune kp_r04_Disk_Crash (prune kp_r04_Disk_Crash (prune kp_r04_Disk_Crash s.env))))) 4))).bind fun r115 =>
  (stA Try.prog 32 r115.2 r115.1 r114.1).bind fun r116 =>
  (pv r116.2 (nilA (get (prune kp_r04_Disk_Crash (prune kp_r04_Disk_Crash (prune kp_r04_Disk_Crash (prune kp_r04_Disk_Crash (prune kp_r04_Disk_Crash (prune kp_r04_Disk_Crash s.env)))))) 0))).bind fun r117 =>
  (pv r117.2 (fieldAddrA Try.prog 57 r117.1 2)).bind fun r118 =>
  (pv r118.2 (loadA Try.prog 55 r118.2 r118.1)).bind fun r119 =>
  (pv r119.2 (indexAddrA Try.prog 55 r119.1 (get (prune kp_r04_Disk_Crash (prune kp_r04_Disk_Crash (prune kp_r04_Disk_Crash (prune kp_r04_Disk_Crash (prune kp_r04_Disk_Crash (prune kp_r04_Disk_Crash s.env)))))) 4))).bind fun r120 =>
  (stA Try.prog 35 r120.2 r120.1 (.v (Go.Value.slice none 0 0))).bind fun r121 =>
  (pv r121.2 (binA Try.prog .add 3 (get (prune kp_r04_Disk_Crash (prune kp_r04_Disk_Crash (prune kp_r04_Disk_Crash (prune kp_r04_Disk_Crash (prune kp_r04_Disk_Crash (prune kp_r04_Disk_Crash (prune kp_r04_Disk_Crash s.env))))))) 4) (.v (Go.Value.int Go.IntKind.i64 1)))).bind fun r122 =>
  some (.normal, ⟨((4, r122.1) :: (43, r103.1) :: (5, r102.1) :: (27, r92.1) :: (5, (.v (Go.Value.int Go.IntKind.i64 0))) :: (21, r90.1) :: (prune kp_r04_Disk_Crash (prune kp_r04_Disk_Crash (prune kp_r04_Disk_Crash (prune kp_r04_Disk_Crash (prune kp_r04_Disk_Crash (prune kp_r04_Disk_Crash (prune kp_r04_Disk_Crash (prune kp_r04_Disk_Crash s.env))))))))), r122.2⟩)) ((pv r103.2 (nilA (get (prune kp_r04_Disk_Crash (prune kp_r04_Disk_Crash (prune kp_r04_Disk_Crash (prune kp_r04_Disk_Crash (prune kp_r04_Disk_Crash s.env))))) 0))).bind fun r123 =>
  (pv r123.2 (fieldAddrA Try.prog 57 r123.1 2)).bind fun r124 =>
  (pv r124.2 (loadA Try.prog 55 r124.2 r124.1)).bind fun r125 =>
  (pv r125.2 (indexAddrA Try.prog 55 r125.1 (get (prune kp_r04_Disk_Crash (prune kp_r04_Disk_Crash (prune kp_r04_Disk_Crash (prune kp_r04_Disk_Crash (prune kp_r04_Disk_Crash s.env))))) 4))).bind fun r126 =>
  (stA Try.prog 35 r126.2 r126.1 (.v (Go.Value.slice none 0 0))).bind fun r127 =>
  (pv r127.2 (binA Try.prog .add 3 (get (prune kp_r04_Disk_Crash (prune kp_r04_Disk_Crash (prune kp_r04_Disk_Crash (prune kp_r04_Disk_Crash (prune kp_r04_Disk_Crash (prune kp_r04_Disk_Crash s.env)))))) 4) (.v (Go.Value.int Go.IntKind.i64 1)))).bind fun r128 =>
  some (.normal, ⟨((4, r128.1) :: (43, r103.1) :: (5, r102.1) :: (27, r92.1) :: (5, (.v (Go.Value.int Go.IntKind.i64 0))) :: (21, r90.1) :: (prune kp_r04_Disk_Crash (prune kp_r04_Disk_Crash (prune kp_r04_Disk_Crash (prune kp_r04_Disk_Crash (prune kp_r04_Disk_Crash (prune kp_r04_Disk_Crash (prune kp_r04_Disk_Crash s.env)))))))), r128.2⟩))) ((pv r92.2 (binA Try.prog .gtr 3 (.v (Go.Value.int Go.IntKind.i64 0)) (.v (Go.Value.int Go.IntKind.i64 0)))).bind fun r129 =>
  condA r129.1 ((pv r129.2 (nilA (get (prune kp_r04_Disk_Crash (prune kp_r04_Disk_Crash (prune kp_r04_Disk_Crash (prune kp_r04_Disk_Crash s.env)))) 0))).bind fun r130 =>
  (pv r130.2 (fieldAddrA Try.prog 57 r130.1 1)).bind fun r131 =>
  (pv r131.2 (loadA Try.prog 35 r131.2 r131.1)).bind fun r132 =>
  (pv r132.2 (nilA (get (prune kp_r04_Disk_Crash (prune kp_r04_Disk_Crash (prune kp_r04_Disk_Crash (prune kp_r04_Disk_Crash s.env)))) 0))).bind fun r133 =>
  (pv r133.2 (fieldAddrA Try.prog 57 r133.1 2)).bind fun r134 =>
  (pv r134.2 (loadA Try.prog 55 r134.2 r134.1)).bind fun r135 =>
  (pv r135.2 (indexAddrA Try.prog 55 r135.1 (get (prune kp_r04_Disk_Crash (prune kp_r04_Disk_Crash (prune kp_r04_Disk_Crash (prune kp_r04_Disk_Crash s.env)))) 4))).bind fun r136 =>
  (pv r136.2 (loadA Try.prog 35 r136.2 r136.1)).bind fun r137 =>
  (pv r137.2 (binA Try.prog .sub 3 (.v (Go.Value.int Go.IntKind.i64 0)) (.v (Go.Value.int Go.IntKind.i64 1)))).bind fun r138 =>
  (pv r138.2 (indexAddrA Try.prog 35 r137.1 r138.1)).bind fun r139 =>
  (pv r139.2 (loadA Try.prog 32 r139.2 r139.1)).bind fun r140 =>
  (pv r140.2 (indexAddrA Try.prog 35 r132.1 (get (prune kp_r04_Disk_Crash (prune kp_r04_Disk_Crash (prune kp_r04_Disk_Crash (prune kp_r04_Disk_Crash s.env)))) 4))).bind fun r141 =>
  (stA Try.prog 32 r141.2 r141.1 r140.1).bind fun r142 =>
  (pv r142.2 (nilA (get (prune kp_r04_Disk_Crash (prune kp_r04_Disk_Crash (prune kp_r04_Disk_Crash (prune kp_r04_Disk_Crash (prune kp_r04_Disk_Crash s.env))))) 0))).bind fun r143 =>
  (pv r143.2 (fieldAddrA Try.prog 57 r143.1 2)).bind fun r144 =>
  (pv r144.2 (loadA Try.prog 55 r144.2 r144.1)).bind fun r145 =>
  (pv r145.2 (indexAddrA Try.prog 55 r145.1 (get (prune kp_r04_Disk_Crash (prune kp_r04_Disk_Crash (prune kp_r04_Disk_Crash (prune kp_r04_Disk_Crash (prune kp_r04_Disk_Crash s.env))))) 4))).bind fun r146 =>
  (stA Try.prog 35 r146.2 r146.1 (.v (Go.Value.slice none 0 0))).bind fun r147 =>
  (pv r147.2 (binA Try.prog .add 3 (get (prune kp_r04_Disk_Crash (prune kp_r04_Disk_Crash (prune kp_r04_Disk_Crash (prune kp_r04_Disk_Crash (prune kp_r04_Disk_Crash (prune kp_r04_Disk_Crash s.env)))))) 4) (.v (Go.Value.int Go.IntKind.i64 1)))).bind fun r148 =>
  some (.normal, ⟨((4, r148.1) :: (43, r129.1) :: (27, r92.1) :: (5, (.v (Go.Value.int Go.IntKind.i64 0))) :: (21, r90.1) :: (prune kp_r04_Disk_Crash (prune kp_r04_Disk_Crash (prune kp_r04_Disk_Crash (prune kp_r04_Disk_Crash (prune kp_r04_Disk_Crash (prune kp_r04_Disk_Crash (prune kp_r04_Disk_Crash s.env)))))))), r148.2⟩)) ((pv r129.2 (nilA (get (prune kp_r04_Disk_Crash (prune kp_r04_Disk_Crash (prune kp_r04_Disk_Crash (prune kp_r04_Disk_Crash s.env)))) 0))).bind fun r149 =>
  (pv r149.2 (fieldAddrA Try.prog 57 r149.1 2)).bind fun r150 =>
  (pv r150.2 (loadA Try.prog 55 r150.2 r150.1)).bind fun r151 =>
  (pv r151.2 (indexAddrA Try.prog 55 r151.1 (get (prune kp_r04_Disk_Crash (prune kp_r04_Disk_Crash (prune kp_r04_Disk_Crash (prune kp_r04_Disk_Crash s.env)))) 4))).bind fun r152 =>
  (stA Try.prog 35 r152.2 r152.1 (.v (Go.Value.slice none 0 0))).bind fun r153 =>
  (pv r153.2 (binA Try.prog .add 3 (get (prune kp_r04_Disk_Crash (prune kp_r04_Disk_Crash (prune kp_r04_Disk_Crash (prune kp_r04_Disk_Crash (prune kp_r04_Disk_Crash s.env))))) 4) (.v (Go.Value.int Go.IntKind.i64 1)))).bind fun r154 =>
  some (.normal, ⟨((4, r154.1) :: (43, r129.1) :: (27, r92.1) :: (5, (.v (Go.Value.int Go.IntKind.i64 0))) :: (21, r90.1) :: (prune kp_r04_Disk_Crash (prune kp_r04_Disk_Crash (prune kp_r04_Disk_Crash (prune kp_r04_Disk_Crash (prune kp_r04_Disk_Crash (prune kp_r04_Disk_Crash s.env))))))), r154.2⟩)))) (some (.exit 0, ⟨((21, r90.1) :: (prune kp_r04_Disk_Crash s.env)), r90.2⟩))
noncomputable def B_r04_Disk_Crash_0 (_E : FnA) (_n _n0 : Nat) (x4 x0 x1 : AV) (y : Bx) : Option (Ex × S) :=
  (pv y (nilA x0)).bind fun r1 =>
  (pv r1.2 (fieldAddrA Try.prog 57 r1.1 1)).bind fun r2 =>
  (pv r2.2 (loadA Try.prog 35 r2.2 r2.1)).bind fun r3 =>
  (pv r3.2 (lenA Try.prog 35 r3.1)).bind fun r4 =>
  (pv r4.2 (binA Try.prog .lss 3 x4 r4.1)).bind fun r5 =>
  (gsel true r5.2 (some (x4, r5.2)) r5.1).bind fun r6 =>
  (gsel true r6.2 (some (x0, r6.2)) r5.1).bind fun r7 =>
  (gsel true r7.2 (pv r7.2 (nilA r7.1)) r5.1).bind fun r8 =>
  (gsel true r8.2 (pv r8.2 (fieldAddrA Try.prog 57 r8.1 2)) r5.1).bind fun r9 =>
  (gsel true r9.2 (pv r9.2 (loadA Try.prog 55 r9.2 r9.1)) r5.1).bind fun r10 =>
  (gsel true r10.2 (pv r10.2 (lenA Try.prog 55 r10.1)) r5.1).bind fun r11 =>
  (gsel true r11.2 (pv r11.2 (binA Try.prog .lss 3 r6.1 r11.1)) r5.1).bind fun r12 =>
  (pv r12.2 (pickA r5.1 r12.1 (.v (Go.Value.bool false)))).bind fun r13 =>
  condA r13.1 ((pv r13.2 (lenA Try.prog 23 x1)).bind fun r14 =>
  (pv r14.2 (binA Try.prog .lss 3 x4 r14.1)).bind fun r15 =>
  condA r15.1 ((pv r15.2 (indexAddrA Try.prog 23 x1 x4)).bind fun r16 =>
  (pv r16.2 (loadA Try.prog 3 r16.2 r16.1)).bind fun r17 =>
  (pv r17.2 (minL true r17.1 [(.v (Go.Value.int Go.IntKind.i64 0))])).bind fun r18 =>
  (pv r18.2 (nilA x0)).bind fun r19 =>
  (pv r19.2 (fieldAddrA Try.prog 57 r19.1 2)).bind fun r20 =>
  (pv r20.2 (loadA Try.prog 55 r20.2 r20.1)).bind fun r21 =>
  (pv r21.2 (indexAddrA Try.prog 55 r21.1 x4)).bind fun r22 =>
  (pv r22.2 (loadA Try.prog 35 r22.2 r22.1)).bind fun r23 =>
  (pv r23.2 (lenA Try.prog 35 r23.1)).bind fun r24 =>
  (pv r24.2 (minL false r18.1 [r24.1])).bind fun r25 =>
  (pv r25.2 (binA Try.prog .gtr 3 r25.1 (.v (Go.Value.int Go.IntKind.i64 0)))).bind fun r26 =>
  condA r26.1 ((pv r26.2 (nilA x0)).bind fun r27 =>
  (pv r27.2 (fieldAddrA Try.prog 57 r27.1 1)).bind fun r28 =>
  (pv r28.2 (loadA Try.prog 35 r28.2 r28.1)).bind fun r29 =>
  (pv r29.2 (nilA x0)).bind fun r30 =>
  (pv r30.2 (fieldAddrA Try.prog 57 r30.1 2)).bind fun r31 =>
  (pv r31.2 (loadA Try.prog 55 r31.2 r31.1)).bind fun r32 =>
  (pv r32.2 (indexAddrA Try.prog 55 r32.1 x4)).bind fun r33 =>
  (pv r33.2 (loadA Try.prog 35 r33.2 r33.1)).bind fun r34 =>
  (pv r34.2 (binA Try.prog .sub 3 r25.1 (.v (Go.Value.int Go.IntKind.i64 1)))).bind fun r35 =>
  (pv r35.2 (indexAddrA Try.prog 35 r34.1 r35.1)).bind fun r36 =>
  (pv r36.2 (loadA Try.prog 32 r36.2 r36.1)).bind fun r37 =>
  (pv r37.2 (indexAddrA Try.prog 35 r29.1 x4)).bind fun r38 =>
  (stA Try.prog 32 r38.2 r38.1 r37.1).bind fun r39 =>
  (pv r39.2 (nilA x0)).bind fun r40 =>
  (pv r40.2 (fieldAddrA Try.prog 57 r40.1 2)).bind fun r41 =>
  (pv r41.2 (loadA Try.prog 55 r41.2 r41.1)).bind fun r42 =>
  (pv r42.2 (indexAddrA Try.prog 55 r42.1 x4)).bind fun r43 =>
  (stA Try.prog 35 r43.2 r43.1 (.v (Go.Value.slice none 0 0))).bind fun r44 =>
  (pv r44.2 (binA Try.prog .add 3 x4 (.v (Go.Value.int Go.IntKind.i64 1)))).bind fun r45 =>
  some (.normal, ⟨[(4, r45.1), (43, r26.1), (5, r25.1), (27, r15.1), (5, (.v (Go.Value.int Go.IntKind.i64 0))), (21, r13.1), (4, x4), (0, x0), (1, x1)], r45.2⟩)) ((pv r26.2 (nilA x0)).bind fun r46 =>
  (pv r46.2 (fieldAddrA Try.prog 57 r46.1 2)).bind fun r47 =>
  (pv r47.2 (loadA Try.prog 55 r47.2 r47.1)).bind fun r48 =>
  (pv r48.2 (indexAddrA Try.prog 55 r48.1 x4)).bind fun r49 =>
  (stA Try.prog 35 r49.2 r49.1 (.v (Go.Value.slice none 0 0))).bind fun r50 =>
  (pv r50.2 (binA Try.prog .add 3 x4 (.v (Go.Value.int Go.IntKind.i64 1)))).bind fun r51 =>
  some (.normal, ⟨[(4, r51.1), (43, r26.1), (5, r25.1), (27, r15.1), (5, (.v (Go.Value.int Go.IntKind.i64 0))), (21, r13.1), (4, x4), (0, x0), (1, x1)], r51.2⟩))) ((pv r15.2 (binA Try.prog .gtr 3 (.v (Go.Value.int Go.IntKind.i64 0)) (.v (Go.Value.int Go.IntKind.i64 0)))).bind fun r52 =>
  condA r52.1 ((pv r52.2 (nilA x0)).bind fun r53 =>
  (pv r53.2 (fieldAddrA Try.prog 57 r53.1 1)).bind fun r54 =>
  (pv r54.2 (loadA Try.prog 35 r54.2 r54.1)).bind fun r55 =>
  (pv r55.2 (nilA x0)).bind fun r56 =>
  (pv r56.2 (fieldAddrA Try.prog 57 r56.1 2)).bind fun r57 =>
  (pv r57.2 (loadA Try.prog 55 r57.2 r57.1)).bind fun r58 =>
  (pv r58.2 (indexAddrA Try.prog 55 r58.1 x4)).bind fun r59 =>
  (pv r59.2 (loadA Try.prog 35 r59.2 r59.1)).bind fun r60 =>
  (pv r60.2 (binA Try.prog .sub 3 (.v (Go.Value.int Go.IntKind.i64 0)) (.v (Go.Value.int Go.IntKind.i64 1)))).bind fun r61 =>
  (pv r61.2 (indexAddrA Try.prog 35 r60.1 r61.1)).bind fun r62 =>
  (pv r62.2 (loadA Try.prog 32 r62.2 r62.1)).bind fun r63 =>
  (pv r63.2 (indexAddrA Try.prog 35 r55.1 x4)).bind fun r64 =>
  (stA Try.prog 32 r64.2 r64.1 r63.1).bind fun r65 =>
  (pv r65.2 (nilA x0)).bind fun r66 =>
  (pv r66.2 (fieldAddrA Try.prog 57 r66.1 2)).bind fun r67 =>
  (pv r67.2 (loadA Try.prog 55 r67.2 r67.1)).bind fun r68 =>
  (pv r68.2 (indexAddrA Try.prog 55 r68.1 x4)).bind fun r69 =>
  (stA Try.prog 35 r69.2 r69.1 (.v (Go.Value.slice none 0 0))).bind fun r70 =>
  (pv r70.2 (binA Try.prog .add 3 x4 (.v (Go.Value.int Go.IntKind.i64 1)))).bind fun r71 =>
  some (.normal, ⟨[(4, r71.1), (43, r52.1), (27, r15.1), (5, (.v (Go.Value.int Go.IntKind.i64 0))), (21, r13.1), (4, x4), (0, x0), (1, x1)], r71.2⟩)) ((pv r52.2 (nilA x0)).bind fun r72 =>
  (pv r72.2 (fieldAddrA Try.prog 57 r72.1 2)).bind fun r73 =>
  (pv r73.2 (loadA Try.prog 55 r73.2 r73.1)).bind fun r74 =>
  (pv r74.2 (indexAddrA Try.prog 55 r74.1 x4)).bind fun r75 =>
  (stA Try.prog 35 r75.2 r75.1 (.v (Go.Value.slice none 0 0))).bind fun r76 =>
  (pv r76.2 (binA Try.prog .add 3 x4 (.v (Go.Value.int Go.IntKind.i64 1)))).bind fun r77 =>
  some (.normal, ⟨[(4, r77.1), (43, r52.1), (27, r15.1), (5, (.v (Go.Value.int Go.IntKind.i64 0))), (21, r13.1), (4, x4), (0, x0), (1, x1)], r77.2⟩)))) (some (.exit 0, ⟨[(21, r13.1), (4, x4), (0, x0), (1, x1)], r13.2⟩))
theorem L_r04_Disk_Crash_0_lit {E : FnA} {n n0 : Nat} {x4 x0 x1 : AV} {y : Bx} {Q : Ex → S → Prop} (h : Ends (B_r04_Disk_Crash_0 E n n0 x4 x0 x1 y) Q) : Ends (L_r04_Disk_Crash_0 E n n0 ⟨[(4, x4), (0, x0), (1, x1)], y⟩) Q := by
  rw [show L_r04_Disk_Crash_0 E n n0 ⟨[(4, x4), (0, x0), (1, x1)], y⟩ = B_r04_Disk_Crash_0 E n n0 x4 x0 x1 y by kernel_rfl]
  exact h
noncomputable def K_r04_Disk_Crash_0 (_E : FnA) (_n _n0 : Nat) (t : S) : Option (Ex × S) :=
  some (.normal, ⟨t.env, t.bx⟩)
noncomputable def X_r04_Disk_Crash_0 (_E : FnA) (_n _n0 : Nat) (i : Nat) (t : S) : Option (Ex × S) :=
  if i = 0 then some (.normal, ⟨t.env, t.bx⟩) else some (.exit i, ⟨t.env, t.bx⟩)
noncomputable def X_r04_Disk_Crash_0_0 (_E : FnA) (_n _n0 : Nat) (x21 x4 x0 x1 : AV) (y : Bx) : Option (Ex × S) :=
  some (.normal, ⟨[(21, x21), (4, x4), (0, x0), (1, x1)], y⟩)
theorem X_r04_Disk_Crash_0_0_lit {E : FnA} {n n0 : Nat} {x21 x4 x0 x1 : AV} {y : Bx} {Q : Ex → S → Prop} (h : Ends (X_r04_Disk_Crash_0_0 E n n0 x21 x4 x0 x1 y) Q) : Ends (X_r04_Disk_Crash_0 E n n0 0 ⟨[(21, x21), (4, x4), (0, x0), (1, x1)], y⟩) Q := by
  rw [show X_r04_Disk_Crash_0 E n n0 0 ⟨[(21, x21), (4, x4), (0, x0), (1, x1)], y⟩ = X_r04_Disk_Crash_0_0 E n n0 x21 x4 x0 x1 y by kernel_rfl]
  exact h
noncomputable def F_r04_Disk_Crash (E : FnA) (n n0 : Nat) (a0 a1 : AV) (bx : Bx) : Option (Ex × S) :=
  exitA (iter (headK ⟨[(4, (.v (Go.Value.int Go.IntKind.i64 0))), (0, a0), (1, a1)], bx⟩) (L_r04_Disk_Crash_0 E n n0) n ⟨[(4, (.v (Go.Value.int Go.IntKind.i64 0))), (0, a0), (1, a1)], bx⟩) (K_r04_Disk_Crash_0 E n n0) (X_r04_Disk_Crash_0 E n n0)
theorem c_r04_Disk_Crash_eq : Try.f32.body = some c_r04_Disk_Crash := by kernel_rfl
theorem d_r04_Disk_Crash : drawsOk Try.prog md0 c_r04_Disk_Crash = true := by kernel_rfl
theorem F_r04_Disk_Crash_eq (E : FnA) (n n0 : Nat) (a0 a1 : AV) (bx : Bx) : evK Try.prog md0 E 67 kp_r04_Disk_Crash n n0 c_r04_Disk_Crash ⟨[(0, a0), (1, a1)], bx⟩ (fun s => some (.normal, s)) (fun i s => some (.exit i, s)) = F_r04_Disk_Crash E n n0 a0 a1 bx := by kernel_rfl

theorem E_r04_Disk_Crash (n : Nat) (a0 a1 : AV) (bx : Bx) : evFn cx0 ext0 (n + 1) 32 [a0, a1] bx = fin Try.prog [] (F_r04_Disk_Crash (evFn cx0 ext0 n) n bx.length a0 a1 bx) := by
  rw [evFn_eq2 (cx := cx0) (c := c_r04_Disk_Crash) rfl Try.func32 c_r04_Disk_Crash_eq (of_decide_eq_true (by kernel_rfl)) d_r04_Disk_Crash (of_decide_eq_true (by kernel_rfl))]
  exact congrArg (fin Try.prog []) (F_r04_Disk_Crash_eq (evFn cx0 ext0 n) n bx.length a0 a1 bx)

/-- (*scupper/scupperref04.Disk).Load -/
def kp_r04_Disk_Load : Option (List Nat) := some [1000000, 0, 1, 4, 5, 13, 17]
noncomputable def c_r04_Disk_Load : Code := Try.f37.body.getD .skip
noncomputable def L_r04_Disk_Load_0 (_E : FnA) (_n _n0 : Nat) (s : S) : Option (Ex × S) :=
  (pv s.bx (lenA Try.prog 35 (get s.env 1))).bind fun r22 =>
  (pv r22.2 (binA Try.prog .lss 3 (get s.env 5) r22.1)).bind fun r23 =>
  condA r23.1 ((pv r23.2 (nilA (get (prune kp_r04_Disk_Load s.env) 0))).bind fun r24 =>
  (pv r24.2 (fieldAddrA Try.prog 57 r24.1 1)).bind fun r25 =>
  (pv r25.2 (loadA Try.prog 35 r25.2 r25.1)).bind fun r26 =>
  (pv r26.2 (nilA (get (prune kp_r04_Disk_Load s.env) 0))).bind fun r27 =>
  (pv r27.2 (fieldAddrA Try.prog 57 r27.1 2)).bind fun r28 =>
  (pv r28.2 (loadA Try.prog 55 r28.2 r28.1)).bind fun r29 =>
  (pv r29.2 (indexAddrA Try.prog 35 (get (prune kp_r04_Disk_Load s.env) 1) (get (prune kp_r04_Disk_Load s.env) 5))).bind fun r30 =>
  (pv r30.2 (loadA Try.prog 32 r30.2 r30.1)).bind fun r31 =>
  (pv r31.2 (indexAddrA Try.prog 35 r26.1 (get (prune kp_r04_Disk_Load s.env) 5))).bind fun r32 =>
  (stA Try.prog 32 r32.2 r32.1 r31.1).bind fun r33 =>
  (pv r33.2 (indexAddrA Try.prog 55 r29.1 (get (prune kp_r04_Disk_Load s.env) 5))).bind fun r34 =>
  (stA Try.prog 35 r34.2 r34.1 (.v (Go.Value.slice none 0 0))).bind fun r35 =>
  (pv r35.2 (binA Try.prog .add 3 (get (prune kp_r04_Disk_Load (prune kp_r04_Disk_Load s.env)) 5) (.v (Go.Value.int Go.IntKind.i64 1)))).bind fun r36 =>
  some (.normal, ⟨((5, r36.1) :: (17, r23.1) :: (prune kp_r04_Disk_Load (prune kp_r04_Disk_Load (prune kp_r04_Disk_Load s.env)))), r36.2⟩)) (some (.exit 0, ⟨((17, r23.1) :: (prune kp_r04_Disk_Load s.env)), r23.2⟩))
noncomputable def B_r04_Disk_Load_0 (_E : FnA) (_n _n0 : Nat) (x5 x13 x4 x0 x1 : AV) (y : Bx) : Option (Ex × S) :=
  (pv y (lenA Try.prog 35 x1)).bind fun r7 =>
  (pv r7.2 (binA Try.prog .lss 3 x5 r7.1)).bind fun r8 =>
  condA r8.1 ((pv r8.2 (nilA x0)).bind fun r9 =>
  (pv r9.2 (fieldAddrA Try.prog 57 r9.1 1)).bind fun r10 =>
  (pv r10.2 (loadA Try.prog 35 r10.2 r10.1)).bind fun r11 =>
  (pv r11.2 (nilA x0)).bind fun r12 =>
  (pv r12.2 (fieldAddrA Try.prog 57 r12.1 2)).bind fun r13 =>
  (pv r13.2 (loadA Try.prog 55 r13.2 r13.1)).bind fun r14 =>
  (pv r14.2 (indexAddrA Try.prog 35 x1 x5)).bind fun r15 =>
  (pv r15.2 (loadA Try.prog 32 r15.2 r15.1)).bind fun r16 =>
  (pv r16.2 (indexAddrA Try.prog 35 r11.1 x5)).bind fun r17 =>
  (stA Try.prog 32 r17.2 r17.1 r16.1).bind fun r18 =>
  (pv r18.2 (indexAddrA Try.prog 55 r14.1 x5)).bind fun r19 =>
  (stA Try.prog 35 r19.2 r19.1 (.v (Go.Value.slice none 0 0))).bind fun r20 =>
  (pv r20.2 (binA Try.prog .add 3 x5 (.v (Go.Value.int Go.IntKind.i64 1)))).bind fun r21 =>
  some (.normal, ⟨[(5, r21.1), (17, r8.1), (5, x5), (13, x13), (4, x4), (0, x0), (1, x1)], r21.2⟩)) (some (.exit 0, ⟨[(17, r8.1), (5, x5), (13, x13), (4, x4), (0, x0), (1, x1)], r8.2⟩))
theorem L_r04_Disk_Load_0_lit {E : FnA} {n n0 : Nat} {x5 x13 x4 x0 x1 : AV} {y : Bx} {Q : Ex → S → Prop} (h : Ends (B_r04_Disk_Load_0 E n n0 x5 x13 x4 x0 x1 y) Q) : Ends (L_r04_Disk_Load_0 E n n0 ⟨[(5, x5), (13, x13), (4, x4), (0, x0), (1, x1)], y⟩) Q := by
  rw [show L_r04_Disk_Load_0 E n n0 ⟨[(5, x5), (13, x13), (4, x4), (0, x0), (1, x1)], y⟩ = B_r04_Disk_Load_0 E n n0 x5 x13 x4 x0 x1 y by kernel_rfl]
  exact h
noncomputable def K_r04_Disk_Load_0 (_E : FnA) (_n _n0 : Nat) (t : S) : Option (Ex × S) :=
  some (.ret, ⟨((4, (.v (Go.Value.int Go.IntKind.i64 0))) :: (prune kp_r04_Disk_Load t.env)), t.bx⟩)
noncomputable def X_r04_Disk_Load_0 (_E : FnA) (_n _n0 : Nat) (i : Nat) (t : S) : Option (Ex × S) :=
  if i = 0 then some (.ret, ⟨((4, (.v (Go.Value.int Go.IntKind.i64 0))) :: (prune kp_r04_Disk_Load t.env)), t.bx⟩) else some (.exit i, ⟨t.env, t.bx⟩)
noncomputable def X_r04_Disk_Load_0_0 (_E : FnA) (_n _n0 : Nat) (x17 x5 x13 x4 x0 x1 : AV) (y : Bx) : Option (Ex × S) :=
  some (.ret, ⟨[(4, (.v (Go.Value.int Go.IntKind.i64 0))), (17, x17), (5, x5), (13, x13), (4, x4), (0, x0), (1, x1)], y⟩)
theorem X_r04_Disk_Load_0_0_lit {E : FnA} {n n0 : Nat} {x17 x5 x13 x4 x0 x1 : AV} {y : Bx} {Q : Ex → S → Prop} (h : Ends (X_r04_Disk_Load_0_0 E n n0 x17 x5 x13 x4 x0 x1 y) Q) : Ends (X_r04_Disk_Load_0 E n n0 0 ⟨[(17, x17), (5, x5), (13, x13), (4, x4), (0, x0), (1, x1)], y⟩) Q := by
  rw [show X_r04_Disk_Load_0 E n n0 0 ⟨[(17, x17), (5, x5), (13, x13), (4, x4), (0, x0), (1, x1)], y⟩ = X_r04_Disk_Load_0_0 E n n0 x17 x5 x13 x4 x0 x1 y by kernel_rfl]
  exact h
noncomputable def F_r04_Disk_Load (E : FnA) (n n0 : Nat) (a0 a1 : AV) (bx : Bx) : Option (Ex × S) :=
  (pv bx (lenA Try.prog 35 a1)).bind fun r1 =>
  (pv r1.2 (nilA a0)).bind fun r2 =>
  (pv r2.2 (fieldAddrA Try.prog 57 r2.1 1)).bind fun r3 =>
  (pv r3.2 (loadA Try.prog 35 r3.2 r3.1)).bind fun r4 =>
  (pv r4.2 (lenA Try.prog 35 r4.1)).bind fun r5 =>
  (pv r5.2 (binA Try.prog .neq 3 r1.1 r5.1)).bind fun r6 =>
  condA r6.1 (some (.ret, ⟨[(4, (.v (Go.Value.int Go.IntKind.i64 2))), (13, r6.1), (4, (.v (Go.Value.int Go.IntKind.i64 0))), (0, a0), (1, a1)], r6.2⟩)) (exitA (iter (headK ⟨[(5, (.v (Go.Value.int Go.IntKind.i64 0))), (13, r6.1), (4, (.v (Go.Value.int Go.IntKind.i64 0))), (0, a0), (1, a1)], r6.2⟩) (L_r04_Disk_Load_0 E n n0) n ⟨[(5, (.v (Go.Value.int Go.IntKind.i64 0))), (13, r6.1), (4, (.v (Go.Value.int Go.IntKind.i64 0))), (0, a0), (1, a1)], r6.2⟩) (K_r04_Disk_Load_0 E n n0) (X_r04_Disk_Load_0 E n n0))
theorem c_r04_Disk_Load_eq : Try.f37.body = some c_r04_Disk_Load := by kernel_rfl
theorem d_r04_Disk_Load : drawsOk Try.prog md0 c_r04_Disk_Load = true := by kernel_rfl
theorem F_r04_Disk_Load_eq (E : FnA) (n n0 : Nat) (a0 a1 : AV) (bx : Bx) : evK Try.prog md0 E 36 kp_r04_Disk_Load n n0 c_r04_Disk_Load ⟨[(0, a0), (1, a1)], bx⟩ (fun s => some (.normal, s)) (fun i s => some (.exit i, s)) = F_r04_Disk_Load E n n0 a0 a1 bx := by kernel_rfl

theorem E_r04_Disk_Load (n : Nat) (a0 a1 : AV) (bx : Bx) : evFn cx0 ext0 (n + 1) 37 [a0, a1] bx = fin Try.prog [.tmp 4] (F_r04_Disk_Load (evFn cx0 ext0 n) n bx.length a0 a1 bx) := by
  rw [evFn_eq2 (cx := cx0) (c := c_r04_Disk_Load) rfl Try.func37 c_r04_Disk_Load_eq (of_decide_eq_true (by kernel_rfl)) d_r04_Disk_Load (of_decide_eq_true (by kernel_rfl))]
  exact congrArg (fin Try.prog [.tmp 4]) (F_r04_Disk_Load_eq (evFn cx0 ext0 n) n bx.length a0 a1 bx)

/-- (*scupper/scupperref04.Disk).Write -/
def kp_r04_Disk_Write : Option (List Nat) := some [0, 1, 2, 5, 6, 7, 11, 18]
noncomputable def c_r04_Disk_Write : Code := Try.f38.body.getD .skip
noncomputable def F_r04_Disk_Write (E : FnA) (_n n0 : Nat) (a0 a1 a2 : AV) (bx : Bx) : Option (Ex × S) :=
  (boxA bx a2).bind fun r1 =>
  (callA E md_r04_Disk_Write r1.2 39 [a0, a1]).bind fun r2 =>
  (pv r2.2 (unA .not r2.1)).bind fun r3 =>
  condA r3.1 (some (.ret, ⟨[(6, (.v (Go.Value.int Go.IntKind.i64 2))), (11, r3.1), (6, (.v (Go.Value.int Go.IntKind.i64 0))), (5, r1.1), (0, a0), (1, a1), (2, a2)], r3.2⟩)) ((pv r3.2 (nilA a0)).bind fun r4 =>
  (pv r4.2 (fieldAddrA Try.prog 57 r4.1 0)).bind fun r5 =>
  (pv r5.2 (loadA Try.prog 49 r5.2 r5.1)).bind fun r6 =>
  (callA E md_r04_Disk_Write r6.2 41 [r6.1]).bind fun r7 =>
  (pv r7.2 (binA Try.prog .neq 26 r7.1 (.v (Go.Value.int Go.IntKind.i64 0)))).bind fun r8 =>
  condA r8.1 (some (.ret, ⟨[(6, r7.1), (18, r8.1), (7, r7.1), (11, r3.1), (6, (.v (Go.Value.int Go.IntKind.i64 0))), (5, r1.1), (0, a0), (1, a1), (2, a2)], r8.2⟩)) ((pv r8.2 (nilA a0)).bind fun r9 =>
  (pv r9.2 (fieldAddrA Try.prog 57 r9.1 2)).bind fun r10 =>
  (pv r10.2 (loadA Try.prog 55 r10.2 r10.1)).bind fun r11 =>
  (pv r11.2 (litA Try.prog 35 0 [])).bind fun r12 =>
  (pv r12.2 (nilA a0)).bind fun r13 =>
  (pv r13.2 (fieldAddrA Try.prog 57 r13.1 2)).bind fun r14 =>
  (pv r14.2 (loadA Try.prog 55 r14.2 r14.1)).bind fun r15 =>
  (pv r15.2 (indexAddrA Try.prog 55 r15.1 a1)).bind fun r16 =>
  (pv r16.2 (loadA Try.prog 35 r16.2 r16.1)).bind fun r17 =>
  (guardB (apartV (apAd r17.2 r12.1) r10.1 && true)).bind fun _ =>
  (appA Try.prog n0 r17.2 35 r12.1 r17.1).bind fun r18 =>
  (guardB (freeA r12.1 a0 && (freeA r12.1 a0 && (freeA r12.1 a0 && (freeA r12.1 r9.1 && (freeA r12.1 r9.1 && (freeA r12.1 r10.1 && (freeA r12.1 r10.1 && (freeA r12.1 r11.1 && (freeA r12.1 a1 && (freeA r12.1 a1 && true))))))))))).bind fun _ =>
  (guardB (apartV (apAd r17.2 r12.1) (r18.2.1 r1.1) && true)).bind fun _ =>
  (pv r18.2.2 (loadA Try.prog 32 r18.2.2 (r18.2.1 r1.1))).bind fun r19 =>
  (guardB (freeA r12.1 (r18.2.1 r1.1) && (freeA r12.1 r19.1 && true))).bind fun _ =>
  (pv r19.2 (litA Try.prog 35 1 [(0, r19.1)])).bind fun r20 =>
  (guardB (freeA r12.1 r19.1 && (freeA r12.1 r20.1 && true))).bind fun _ =>
  (guardB (apartV (apAd r20.2 r18.1) r10.1 && true)).bind fun _ =>
  (appA Try.prog n0 r20.2 35 r18.1 r20.1).bind fun r21 =>
  (guardB (freeA r18.1 a0 && (freeA r18.1 a0 && (freeA r18.1 a0 && (freeA r18.1 r9.1 && (freeA r18.1 r9.1 && (freeA r18.1 r10.1 && (freeA r18.1 r10.1 && (freeA r18.1 r11.1 && (freeA r18.1 a1 && (freeA r18.1 a1 && true))))))))))).bind fun _ =>
  (pv r21.2.2 (indexAddrA Try.prog 55 (r21.2.1 (r18.2.1 r11.1)) (r21.2.1 (r18.2.1 a1)))).bind fun r22 =>
  (stA Try.prog 35 r22.2 r22.1 r21.1).bind fun r23 =>
  (pv r23.2 (nilA (r21.2.1 (r18.2.1 a0)))).bind fun r24 =>
  (pv r24.2 (fieldAddrA Try.prog 57 r24.1 3)).bind fun r25 =>
  (pv r25.2 (loadA Try.prog 3 r25.2 r25.1)).bind fun r26 =>
  (pv r26.2 (binA Try.prog .add 3 r26.1 (.v (Go.Value.int Go.IntKind.i64 1)))).bind fun r27 =>
  (pv r27.2 (nilA (r21.2.1 (r18.2.1 a0)))).bind fun r28 =>
  (pv r28.2 (fieldAddrA Try.prog 57 r28.1 3)).bind fun r29 =>
  (stA Try.prog 3 r29.2 r29.1 r27.1).bind fun r30 =>
  some (.ret, ⟨[(6, (.v (Go.Value.int Go.IntKind.i64 0))), (18, (r21.2.1 (r18.2.1 r8.1))), (7, (r21.2.1 (r18.2.1 r7.1))), (11, (r21.2.1 (r18.2.1 r3.1))), (6, (r21.2.1 (r18.2.1 (.v (Go.Value.int Go.IntKind.i64 0))))), (5, (r21.2.1 (r18.2.1 r1.1))), (0, (r21.2.1 (r18.2.1 a0))), (1, (r21.2.1 (r18.2.1 a1))), (2, (r21.2.1 (r18.2.1 a2)))], r30.2⟩)))
theorem c_r04_Disk_Write_eq : Try.f38.body = some c_r04_Disk_Write := by kernel_rfl
theorem d_r04_Disk_Write : drawsOk Try.prog md_r04_Disk_Write c_r04_Disk_Write = true := by kernel_rfl
theorem F_r04_Disk_Write_eq (E : FnA) (n n0 : Nat) (a0 a1 a2 : AV) (bx : Bx) : evK Try.prog md_r04_Disk_Write E 45 kp_r04_Disk_Write n n0 c_r04_Disk_Write ⟨[(0, a0), (1, a1), (2, a2)], bx⟩ (fun s => some (.normal, s)) (fun i s => some (.exit i, s)) = F_r04_Disk_Write E n n0 a0 a1 a2 bx := by kernel_rfl

theorem E_r04_Disk_Write (n : Nat) (a0 a1 a2 : AV) (bx : Bx) : evFn cx0 ext0 (n + 1) 38 [a0, a1, a2] bx = fin Try.prog [.tmp 6] (F_r04_Disk_Write (evFn cx0 ext0 n) n bx.length a0 a1 a2 bx) := by
  rw [evFn_eq2 (cx := cx0) (c := c_r04_Disk_Write) rfl Try.func38 c_r04_Disk_Write_eq (of_decide_eq_true (by kernel_rfl)) d_r04_Disk_Write (of_decide_eq_true (by kernel_rfl))]
  exact congrArg (fin Try.prog [.tmp 6]) (F_r04_Disk_Write_eq (evFn cx0 ext0 n) n bx.length a0 a1 a2 bx)

/-- (*scupper/scupperref04.Disk).is -/
def kp_r04_Disk_is : Option (List Nat) := some [0, 1, 4]
noncomputable def c_r04_Disk_is : Code := Try.f39.body.getD .skip
noncomputable def F_r04_Disk_is (_E : FnA) (_n _n0 : Nat) (a0 a1 : AV) (bx : Bx) : Option (Ex × S) :=
  (pv bx (binA Try.prog .geq 3 a1 (.v (Go.Value.int Go.IntKind.i64 0)))).bind fun r1 =>
  (gsel true r1.2 (some (a1, r1.2)) r1.1).bind fun r2 =>
  (gsel true r2.2 (some (a0, r2.2)) r1.1).bind fun r3 =>
  (gsel true r3.2 (pv r3.2 (nilA r3.1)) r1.1).bind fun r4 =>
  (gsel true r4.2 (pv r4.2 (fieldAddrA Try.prog 57 r4.1 1)) r1.1).bind fun r5 =>
  (gsel true r5.2 (pv r5.2 (loadA Try.prog 35 r5.2 r5.1)) r1.1).bind fun r6 =>
  (gsel true r6.2 (pv r6.2 (lenA Try.prog 35 r6.1)) r1.1).bind fun r7 =>
  (gsel true r7.2 (pv r7.2 (binA Try.prog .lss 3 r2.1 r7.1)) r1.1).bind fun r8 =>
  (pv r8.2 (pickA r1.1 r8.1 (.v (Go.Value.bool false)))).bind fun r9 =>
  some (.ret, ⟨[(4, r9.1), (4, (.v (Go.Value.bool false))), (0, a0), (1, a1)], r9.2⟩)
theorem c_r04_Disk_is_eq : Try.f39.body = some c_r04_Disk_is := by kernel_rfl
theorem d_r04_Disk_is : drawsOk Try.prog md0 c_r04_Disk_is = true := by kernel_rfl
theorem F_r04_Disk_is_eq (E : FnA) (n n0 : Nat) (a0 a1 : AV) (bx : Bx) : evK Try.prog md0 E 16 kp_r04_Disk_is n n0 c_r04_Disk_is ⟨[(0, a0), (1, a1)], bx⟩ (fun s => some (.normal, s)) (fun i s => some (.exit i, s)) = F_r04_Disk_is E n n0 a0 a1 bx := by kernel_rfl

theorem E_r04_Disk_is (n : Nat) (a0 a1 : AV) (bx : Bx) : evFn cx0 ext0 (n + 1) 39 [a0, a1] bx = fin Try.prog [.tmp 4] (F_r04_Disk_is (evFn cx0 ext0 n) n bx.length a0 a1 bx) := by
  rw [evFn_eq2 (cx := cx0) (c := c_r04_Disk_is) rfl Try.func39 c_r04_Disk_is_eq (of_decide_eq_true (by kernel_rfl)) d_r04_Disk_is (of_decide_eq_true (by kernel_rfl))]
  exact congrArg (fin Try.prog [.tmp 4]) (F_r04_Disk_is_eq (evFn cx0 ext0 n) n bx.length a0 a1 bx)

/-- scupper/scupperbase.Ints -/
def kp_base_Ints : Option (List Nat) := some [0, 2]
noncomputable def c_base_Ints : Code := Try.f31.body.getD .skip
noncomputable def F_base_Ints (_E : FnA) (_n n0 : Nat) (a0 : AV) (bx : Bx) : Option (Ex × S) :=
  (some (AV.bsl (List.length bx) 0 0 0, bx ++ [[]])).bind fun r1 =>
  (buildSliceA Try.prog r1.2 23 0 []).bind fun r2 =>
  (appA Try.prog n0 r2.2 23 r2.1 a0).bind fun r3 =>
  some (.ret, ⟨[(2, r3.1), (2, (r3.2.1 r1.1)), (0, (r3.2.1 a0))], r3.2.2⟩)
theorem c_base_Ints_eq : Try.f31.body = some c_base_Ints := by kernel_rfl
theorem d_base_Ints : drawsOk Try.prog md0 c_base_Ints = true := by kernel_rfl
theorem F_base_Ints_eq (E : FnA) (n n0 : Nat) (a0 : AV) (bx : Bx) : evK Try.prog md0 E 6 kp_base_Ints n n0 c_base_Ints ⟨[(0, a0)], bx⟩ (fun s => some (.normal, s)) (fun i s => some (.exit i, s)) = F_base_Ints E n n0 a0 bx := by kernel_rfl

theorem E_base_Ints (n : Nat) (a0 : AV) (bx : Bx) : evFn cx0 ext0 (n + 1) 31 [a0] bx = fin Try.prog [.tmp 2] (F_base_Ints (evFn cx0 ext0 n) n bx.length a0 bx) := by
  rw [evFn_eq2 (cx := cx0) (c := c_base_Ints) rfl Try.func31 c_base_Ints_eq (of_decide_eq_true (by kernel_rfl)) d_base_Ints (of_decide_eq_true (by kernel_rfl))]
  exact congrArg (fin Try.prog [.tmp 2]) (F_base_Ints_eq (evFn cx0 ext0 n) n bx.length a0 bx)

end Go.Sy
