/-
  Layer 12: what the reference puts.
-/
import Derived.Test.YtmegbgmgpogfoaaLwDir2
namespace Go.Sy
open Go.Proofs Go.Proofs.Ytmegbgmgpogfoaa Num

theorem callA_fresh {E : FnA} {md : FuncId → Md} {f : FuncId} (h : md f = .fresh) {bx bx' : Bx} {args : List AV} {b off m e : Nat} (hr : E f (args.map (frz bx true 6)) [] = some (.bsl b off m e, bx')) :
    callA E md bx f args = some (.bsl bx.length 0 m e, bx ++ [(((bx'[b]?).getD []).drop off |>.take (m * e)).map AV.bare]) := by
  unfold callA
  simp only [h, hr, Option.bind_some]
theorem rput16_raw (m : Nat) (x : Nat) (h : x < 65536) : evFn cx0 ext0 (m + 1) 29 [.v (.int .u16 x)] [] = some (.bsl 1 0 2 1, [[], u8l (p16 x)]) := by
  have e : evFn cx0 ext0 (m + 1) 29 [.v (.int .u16 x)] [] = some (.bsl 1 0 2 1, [[], [.v (.int .u8 (IntKind.u8.wrap ((x : Int).tmod 256))), .v (.int .u8 (IntKind.u8.wrap (IntKind.u16.wrap ((x : Int).tdiv 256))))]]) := by kernel_rfl
  have e1 : (x : Int).tmod 256 = ((x % 256 : Nat) : Int) := tm x 256 (.inr trivial)
  have e2 : (x : Int).tdiv 256 = ((x / 256 : Nat) : Int) := td x 256
  have e3 : IntKind.u16.wrap ((x / 256 : Nat) : Int) = ((x / 256 : Nat) : Int) := by rw [wrap16]; omega
  rw [e, e1, e2, e3, wr8, wr8, ofNat_mod]
  rfl
theorem lit1 (x : UInt8) : litA Try.prog 28 1 [(0, u8 x)] = some (byt false [x]) := by kernel_rfl
theorem lit0 : litA Try.prog 28 1 [(0, .v (.int .u8 0))] = some (byt false [0]) := by kernel_rfl
theorem mk13 (bx : Bx) : makeSliceA Try.prog bx 28 (.v (.int .i64 13)) (.v (.int .i64 13)) = some (.bsl bx.length 0 13 1, bx ++ [u8l (zero 13)]) := by kernel_rfl
theorem cv_sb (bx : Bx) (s : ByteArray) : convA Try.prog bx 9 28 (.v (.string s)) = some (.bsl bx.length 0 s.size 1, bx ++ [u8l s.data.toList]) := by kernel_rfl
theorem app_2 (bx : Bx) (hk : ∀ l ∈ bx, l.map (AV.keep (· != 2)) = l) (q x : List UInt8) (y : AV) (N : Nat) (hb : bx[2]? = some (u8l q)) (hy : readA bx y = some (x.length, u8l x)) (hN : N = q.length) (hq : q.length < 100) (hx : x.length < 100) :
    appA Try.prog 0 bx 28 (.bsl 2 0 N 1) y = some (.bsl 2 0 (q.length + x.length) 1, AV.keep (· != 2), bx.set 2 (u8l (q ++ x))) := by
  rw [appV t8 0 bx y 2 q x N hb (by omega) hy (by omega) (by omega) hN]
  congr 3
  refine congrArg (fun z => List.set z 2 (u8l (q ++ x))) ?_
  refine Eq.trans (List.map_congr_left (g := id) fun l hl => hk l hl) (List.map_id _)
def rputV (n : Int) (l : List UInt8) : AV := if okE n l then .tup [byt false (eb n.toNat l), .v (.int .i64 0)] else .tup [byt false (zero 13), .v (.int .i64 (putE n))]
/-- bytes, and noughts behind them -/
def ebp (n : Nat) (l : List UInt8) (k : Nat) : List UInt8 := p16 n ++ [UInt8.ofNat l.length] ++ l ++ zero k
theorem ebp_len (n : Nat) (l : List UInt8) (k : Nat) : (ebp n l k).length = 3 + l.length + k := by
  unfold ebp
  simp [p16]
  omega
theorem ebp_step (n : Nat) (l : List UInt8) (k : Nat) : ebp n l k ++ [0] = ebp n l (k + 1) := by
  unfold ebp
  rw [List.append_assoc, show zero k ++ [0] = zero (k + 1) from (List.replicate_succ' ..).symm]
theorem ent_keep (p : Nat → Bool) (n : Int) (s : ByteArray) : (ent n s).map (AV.keep p) = ent n s := rfl
theorem rPut_ev {k : Nat} (hk : 50 ≤ k) (n : Int) (s : ByteArray) : cf (evFn cx0 ext0 k) 9 [.agg (ent n s)] = some (rputV n s.data.toList) := by
  obtain ⟨m, rfl⟩ : ∃ m, k = m + 2 := ⟨k - 2, by omega⟩
  have fl := fun r => fl_e n s [] r
  have fa := fa_e 0
  unfold cf
  rw [E_r12_Put]
  refine ends_cf (P := Try.prog) ?_
  unfold F_r12_Put
  unfold rputV okE putE
  by_cases h1 : n < 1
  · have g1 : decide (n < 1) = true := decide_eq_true h1
    rw [decide_eq_false (show ¬ 1 ≤ n by omega), if_neg (by simp), if_pos (.inl h1)]
    have stq := (And.intro (box_e) (And.intro (fa) (And.intro (fl) (And.intro (g1) (mk13)))))
    repeat first
      | ((with_reducible apply ends_bind); case h => first | (simp only [stp, stq]; first | done | rfl) | rfl)
      | ((with_reducible apply ends_t); case h => first | rfl | (simp only [stp, stq]; done))
      | ((with_reducible apply ends_f); case h => first | rfl | (simp only [stp, stq]; done))
    exact ends_some ⟨.inl rfl, _, rfl, rfl⟩
  have g1 : decide (n < 1) = false := decide_eq_false h1
  by_cases h2 : 65535 < n
  · have g2 : decide (n > 65535) = true := decide_eq_true h2
    rw [decide_eq_false (show ¬ n ≤ 65535 by omega), if_neg (by simp), if_pos (.inr h2)]
    have stq := (And.intro (box_e) (And.intro (fa) (And.intro (fl) (And.intro (g1) (And.intro (g2) (mk13))))))
    repeat first
      | ((with_reducible apply ends_bind); case h => first | (simp only [stp, stq]; first | done | rfl) | rfl)
      | ((with_reducible apply ends_t); case h => first | rfl | (simp only [stp, stq]; done))
      | ((with_reducible apply ends_f); case h => first | rfl | (simp only [stp, stq]; done))
    exact ends_some ⟨.inl rfl, _, rfl, rfl⟩
  have g2 : decide (n > 65535) = false := decide_eq_false h2
  rw [decide_eq_true (show 1 ≤ n by omega), decide_eq_true (show n ≤ 65535 by omega)]
  simp only [Bool.true_and]
  have c1 : callA (evFn cx0 ext0 (m + 1)) md_r12_Put [ent n s, []] 12 [.v (.string s)] = some (.v (.int .i64 (Ytmegbgmgpogfoaa.chk s.data.toList)), [ent n s, []]) := by
    rw [callA_frozen rfl]
    show (cf (evFn cx0 ext0 (m + 1)) 12 [.v (.string s)]).map _ = _
    rw [rcheck_ev (by omega)]
    rfl
  unfold Ytmegbgmgpogfoaa.chk at c1
  cases hn : isName s.data.toList
  · rw [hn] at c1
    rw [if_neg (by simp), if_neg (by omega)]
    have g3 : ((45 : Int) != 0) = true := rfl
    have c1' : callA (evFn cx0 ext0 (m + 1)) md_r12_Put [ent n s, []] 12 [.v (.string s)] = some (.v (.int .i64 45), [ent n s, []]) := c1
    have stq := (And.intro (box_e) (And.intro (fa) (And.intro (fl) (And.intro (g1) (And.intro (g2) (And.intro (mk13) (And.intro (c1') (g3))))))))
    repeat first
      | ((with_reducible apply ends_bind); case h => first | (simp only [stp, stq]; first | done | rfl) | rfl)
      | ((with_reducible apply ends_t); case h => first | rfl | (simp only [stp, stq]; done))
      | ((with_reducible apply ends_f); case h => first | rfl | (simp only [stp, stq]; done))
    exact ends_some ⟨.inl rfl, _, rfl, rfl⟩
  · rw [hn] at c1
    rw [if_pos rfl]
    have g3 : ((0 : Int) != 0) = false := rfl
    have c1' : callA (evFn cx0 ext0 (m + 1)) md_r12_Put [ent n s, []] 12 [.v (.string s)] = some (.v (.int .i64 0), [ent n s, []]) := c1
    obtain ⟨l1, l2⟩ := name_len hn
    have hsz : s.data.toList.length = s.size := rfl
    obtain ⟨i, rfl⟩ : ∃ i : Nat, n = i := ⟨n.toNat, by omega⟩
    rw [Int.toNat_natCast]
    have cv := fun bx => cv_16 bx i (by omega)
    have cl := fun bx => cv_len bx s.size (by omega)
    have ls := len_s s
    have cs := fun bx => cv_sb bx s
    have c2 : callA (evFn cx0 ext0 (m + 1)) md_r12_Put [ent i s, []] 29 [.v (.int .u16 i)] = some (.bsl 2 0 2 1, [ent i s, [], u8l (p16 i)]) := by
      have hr : evFn cx0 ext0 (m + 1) 29 ([.v (.int .u16 i)].map (frz [ent i s, []] true 6)) [] = _ := rput16_raw m i (by omega)
      rw [callA_fresh rfl hr]
      rfl
    have lt := lit1 (UInt8.ofNat s.size)
    have a1 : appA Try.prog 0 [ent i s, [], u8l (p16 i)] 28 (.bsl 2 0 2 1) (byt false [UInt8.ofNat s.size]) = some (.bsl 2 0 3 1, AV.keep (· != 2), [ent i s, [], u8l (p16 i ++ [UInt8.ofNat s.size])]) := by
      refine app_2 _ ?_ (p16 i) [UInt8.ofNat s.size] _ 2 rfl rfl rfl (by simp [p16]) (by simp)
      intro l hl
      simp only [List.mem_cons, List.not_mem_nil, or_false] at hl
      rcases hl with rfl | rfl | rfl
      · rfl
      · rfl
      · exact u8l_keep _ _
    have a2 : appA Try.prog 0 [ent i s, [], u8l (p16 i ++ [UInt8.ofNat s.size]), u8l s.data.toList] 28 (.bsl 2 0 3 1) (.bsl 3 0 s.size 1) = some (.bsl 2 0 (3 + s.size) 1, AV.keep (· != 2), [ent i s, [], u8l (ebp i s.data.toList 0), u8l s.data.toList]) := by
      have := app_2 [ent i s, [], u8l (p16 i ++ [UInt8.ofNat s.size]), u8l s.data.toList] ?_ (p16 i ++ [UInt8.ofNat s.size]) s.data.toList (.bsl 3 0 s.size 1) 3 rfl ?_ rfl (by simp [p16]) (by omega)
      · rw [this]
        have he : p16 i ++ [UInt8.ofNat s.size] ++ s.data.toList = ebp i s.data.toList 0 := by
          unfold ebp
          rw [hsz]
          simp
        rw [he]
        rfl
      · intro l hl
        simp only [List.mem_cons, List.not_mem_nil, or_false] at hl
        rcases hl with rfl | rfl | rfl | rfl
        · rfl
        · rfl
        · exact u8l_keep _ _
        · exact u8l_keep _ _
      · rw [rd_b (b := s.data.toList) rfl, List.drop_zero, List.take_of_length_le (by omega), hsz]
    have stq := (And.intro (box_e) (And.intro (fa) (And.intro (fl) (And.intro (g1) (And.intro (g2) (And.intro (c1') (And.intro (g3) (And.intro (cv) (And.intro (c2) (And.intro (ls) (And.intro (cl) (And.intro (lt) (And.intro (a1) (And.intro (cs) (a2)))))))))))))))
    repeat first
      | ((with_reducible apply ends_bind); case h => first | (simp only [stp, stq]; first | done | rfl) | rfl)
      | ((with_reducible apply ends_t); case h => first | rfl | (simp only [stp, stq]; done))
      | ((with_reducible apply ends_f); case h => first | rfl | (simp only [stp, stq]; done))
    refine ends_loop (fun j st => ∃ (k : Nat) (y5 y19 y4 y13 y2 y1 y0 : AV) (b0 b1 b2 b3 : List AV), st = ⟨[(5, .bsl 2 0 (3 + s.size + k) 1), (5, y5), (19, y19), (4, y4), (13, y13), (3, .v (.int .i64 0)), (2, y2), (1, y1), (0, y0)], [b0, b1, b2, b3]⟩ ∧
      b0 = ent i s ∧ b1 = [] ∧ b2 = u8l (ebp i s.data.toList k) ∧ b3 = u8l s.data.toList ∧ 3 + s.size + k + j = 13) (10 - s.size) (by omega) ⟨0, _, _, _, _, _, _, _, _, _, _, _, rfl, rfl, rfl, rfl, rfl, by omega⟩ ?_
    rintro j st ⟨k, y5, y19, y4, y13, y2, y1, y0, b0, b1, b2, b3, rfl, rfl, rfl, rfl, rfl, hj⟩
    refine L_r12_Put_0_lit ?_
    unfold B_r12_Put_0
    have hbl := ebp_len i s.data.toList k
    have ln : lenA Try.prog 28 (.bsl 2 0 (3 + s.size + k) 1) = some (.v (.int .i64 ((3 + s.size + k : Nat) : Int))) := by kernel_rfl
    rcases j with _ | j
    · have g4 : decide (((3 + s.size + k : Nat) : Int) < 13) = false := decide_eq_false (by omega)
      have stq := (And.intro (ln) (g4))
      repeat first
        | ((with_reducible apply ends_bind); case h => first | (simp only [stp, stq]; first | done | rfl) | rfl)
        | ((with_reducible apply ends_t); case h => first | rfl | (simp only [stp, stq]; done))
        | ((with_reducible apply ends_f); case h => first | rfl | (simp only [stp, stq]; done))
      refine ends_some (.inr (.inl ⟨0, rfl, X_r12_Put_0_0_lit ?_⟩))
      unfold X_r12_Put_0_0
      have hk10 : k = 10 - s.data.toList.length := by omega
      have he : ebp i s.data.toList k = eb i s.data.toList := by rw [hk10]; rfl
      refine ends_some ⟨.inl rfl, _, rfl, ?_⟩
      show AV.tup [frz [ent i s, [], u8l (ebp i s.data.toList k), u8l s.data.toList] false 5 (.bsl 2 0 (3 + s.size + k) 1), .v (.int .i64 0)] = _
      rw [frz_b8 (b := ebp i s.data.toList k) false rfl (by omega), he]
    · have g4 : decide (((3 + s.size + k : Nat) : Int) < 13) = true := decide_eq_true (by omega)
      have a3 : appA Try.prog 0 [ent i s, [], u8l (ebp i s.data.toList k), u8l s.data.toList] 28 (.bsl 2 0 (3 + s.size + k) 1) (byt false [0]) = some (.bsl 2 0 (3 + s.size + (k + 1)) 1, AV.keep (· != 2), [ent i s, [], u8l (ebp i s.data.toList (k + 1)), u8l s.data.toList]) := by
        have := app_2 [ent i s, [], u8l (ebp i s.data.toList k), u8l s.data.toList] ?_ (ebp i s.data.toList k) [0] (byt false [0]) (3 + s.size + k) rfl rfl (by omega) (by omega) (by decide)
        · rw [this, ebp_step, hbl]
          rfl
        · intro l hl
          simp only [List.mem_cons, List.not_mem_nil, or_false] at hl
          rcases hl with rfl | rfl | rfl | rfl
          · rfl
          · rfl
          · exact u8l_keep _ _
          · exact u8l_keep _ _
      have stq := (And.intro (ln) (And.intro (g4) (And.intro (lit0) (a3))))
      repeat first
        | ((with_reducible apply ends_bind); case h => first | (simp only [stp, stq]; first | done | rfl) | rfl)
        | ((with_reducible apply ends_t); case h => first | rfl | (simp only [stp, stq]; done))
        | ((with_reducible apply ends_f); case h => first | rfl | (simp only [stp, stq]; done))
      exact ends_some (.inl ⟨rfl, j, by omega, k + 1, _, _, _, _, _, _, _, _, _, _, _, rfl, ent_keep _ _ _, rfl, u8l_keep _ _, u8l_keep _ _, by omega⟩)
end Go.Sy
