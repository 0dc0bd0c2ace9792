/-
  What the functions of seals compute, as the reader reads them.
-/
import Derived.Test.YtmkdhgigghgieaaPfNum
import Derived.Test.YtmkdhgigghgieaaPfCrc
import Derived.Test.YtmkdhgigghgieaaPlSeal
import Derived.Test.YtmkdhgigghgieaaSyArr
namespace Go.Sy
open Go.Proofs Num Crc Seal

theorem hB : arr8 Try.prog 23 64 = true := by kernel_rfl
theorem hL : arr8 Try.prog 38 54 = true := by kernel_rfl
theorem retq_ct {P : Program} {a t u : Nat} {env : Env} {bx : Bx} {x x' : AV} (hl : loadA P t bx (get env a) = some x) (hx : frz bx false 5 x = x') : RetQ P [.cell a t, .tmp u] (.tup [x', frz bx false 5 (get env u)]) .ret ⟨env, bx⟩ := by
  refine ⟨.inl rfl, [x, get env u], ?_, ?_⟩
  · simp only [resL, hl, Option.bind_some, Option.map_some]
  · show AV.tup [frz bx false 5 x, frz bx false 5 (get env u)] = _
    rw [hx]
theorem retq_ctt {P : Program} {a t u v : Nat} {env : Env} {bx : Bx} {x x' : AV} (hl : loadA P t bx (get env a) = some x) (hx : frz bx false 5 x = x') : RetQ P [.cell a t, .tmp u, .tmp v] (.tup [x', frz bx false 5 (get env u), frz bx false 5 (get env v)]) .ret ⟨env, bx⟩ := by
  refine ⟨.inl rfl, [x, get env u, get env v], ?_, ?_⟩
  · simp only [resL, hl, Option.bind_some, Option.map_some]
  · show AV.tup [frz bx false 5 x, frz bx false 5 (get env u), frz bx false 5 (get env v)] = _
    rw [hx]
theorem cvi8 (bx : Bx) (n : Int) : convA Try.prog bx 3 5 (.v (.int .i64 n)) = some (.v (.int .u8 (IntKind.u8.wrap n)), bx) := by kernel_rfl
theorem of1 {n : Nat} (f g : Bool) (a : List UInt8) (ha : a.length ≤ 300) (hn : 400 ≤ n) : cf (evFn cx0 ext0 n) 52 [.sl 1 [byt g a] f] = some (v32 (sum a)) := by
  have h := of_ev (n := n) (B := 300) f [byt g a] [a] (RdP.cons (.inl ⟨g, rfl⟩) RdP.nil) (by simpa using ha) (by simp) (by omega) (by simp) (by simp; omega)
  simpa using h
theorem n_tf : (!true) = false := rfl
theorem n_ft : (!false) = true := rfl
/-- what 'Put' answers -/
def putV (k : Int) (t : Nat) (p : List UInt8) : AV := if mayK k then .tup [.agg (u8l (blk k.toNat t p)), .v (.int .i64 0)] else .tup [.agg (u8l (zero 64)), .v (.int .i64 2)]

theorem may_ev (m : Nat) (k : Int) : cf (evFn cx0 ext0 (m + 1)) 45 [.v (.int .i64 k)] = some (.v (.bool (decide (mayK k)))) := by
  unfold cf
  rw [E_seal_may]
  refine ends_cf (P := Try.prog) ?_
  unfold F_seal_may
  by_cases h1 : 1 ≤ k
  · have g1 : decide (1 ≤ k) = true := decide_eq_true h1
    by_cases h2 : k ≤ 6
    · have g2 : decide (k ≤ 6) = true := decide_eq_true h2
      rw [decide_eq_true (show mayK k from ⟨h1, h2⟩)]
      have stq := (And.intro (g1) (g2))
      repeat first
        | ((with_reducible apply ends_bind); case h => first | (simp only [stp, stq]; first | done | rfl) | rfl)
        | ((with_reducible apply ends_t); case h => first | rfl | (simp only [stp, stq]; done))
        | ((with_reducible apply ends_f); case h => first | rfl | (simp only [stp, stq]; done))
      exact ends_some ⟨.inl rfl, _, rfl, rfl⟩
    · have g2 : decide (k ≤ 6) = false := decide_eq_false h2
      rw [decide_eq_false (show ¬ mayK k from fun h => h2 h.2)]
      have stq := (And.intro (g1) (g2))
      repeat first
        | ((with_reducible apply ends_bind); case h => first | (simp only [stp, stq]; first | done | rfl) | rfl)
        | ((with_reducible apply ends_t); case h => first | rfl | (simp only [stp, stq]; done))
        | ((with_reducible apply ends_f); case h => first | rfl | (simp only [stp, stq]; done))
      exact ends_some ⟨.inl rfl, _, rfl, rfl⟩
  · have g1 : decide (1 ≤ k) = false := decide_eq_false h1
    rw [decide_eq_false (show ¬ mayK k from fun h => h1 h.1)]
    have stq := (g1)
    repeat first
      | ((with_reducible apply ends_bind); case h => first | (simp only [stp, stq]; first | done | rfl) | rfl)
      | ((with_reducible apply ends_t); case h => first | rfl | (simp only [stp, stq]; done))
      | ((with_reducible apply ends_f); case h => first | rfl | (simp only [stp, stq]; done))
    exact ends_some ⟨.inl rfl, _, rfl, rfl⟩
theorem rmay_ev (m : Nat) (k : Int) : cf (evFn cx0 ext0 (m + 1)) 30 [.v (.int .i64 k)] = some (.v (.bool (decide (mayK k)))) := by
  unfold cf
  rw [E_r07_may]
  refine ends_cf (P := Try.prog) ?_
  unfold F_r07_may
  by_cases h1 : 1 ≤ k
  · have g1 : decide (1 ≤ k) = true := decide_eq_true h1
    by_cases h2 : k ≤ 6
    · have g2 : decide (k ≤ 6) = true := decide_eq_true h2
      rw [decide_eq_true (show mayK k from ⟨h1, h2⟩)]
      have stq := (And.intro (g1) (g2))
      repeat first
        | ((with_reducible apply ends_bind); case h => first | (simp only [stp, stq]; first | done | rfl) | rfl)
        | ((with_reducible apply ends_t); case h => first | rfl | (simp only [stp, stq]; done))
        | ((with_reducible apply ends_f); case h => first | rfl | (simp only [stp, stq]; done))
      exact ends_some ⟨.inl rfl, _, rfl, rfl⟩
    · have g2 : decide (k ≤ 6) = false := decide_eq_false h2
      rw [decide_eq_false (show ¬ mayK k from fun h => h2 h.2)]
      have stq := (And.intro (g1) (g2))
      repeat first
        | ((with_reducible apply ends_bind); case h => first | (simp only [stp, stq]; first | done | rfl) | rfl)
        | ((with_reducible apply ends_t); case h => first | rfl | (simp only [stp, stq]; done))
        | ((with_reducible apply ends_f); case h => first | rfl | (simp only [stp, stq]; done))
      exact ends_some ⟨.inl rfl, _, rfl, rfl⟩
  · have g1 : decide (1 ≤ k) = false := decide_eq_false h1
    rw [decide_eq_false (show ¬ mayK k from fun h => h1 h.1)]
    have stq := (g1)
    repeat first
      | ((with_reducible apply ends_bind); case h => first | (simp only [stp, stq]; first | done | rfl) | rfl)
      | ((with_reducible apply ends_t); case h => first | rfl | (simp only [stp, stq]; done))
      | ((with_reducible apply ends_f); case h => first | rfl | (simp only [stp, stq]; done))
    exact ends_some ⟨.inl rfl, _, rfl, rfl⟩
theorem h4 : arr8 Try.prog 72 4 = true := by kernel_rfl
theorem bs1o (bx : Bx) (k o n : Nat) : buildSliceA Try.prog bx 77 1 [(0, .bsl k o n 1)] = some (.bsl bx.length 0 1 1, bx ++ [[.bsl k o n 1]]) := by kernel_rfl
theorem Put_ev {n : Nat} (hn : 410 ≤ n) (k : Int) (t : Nat) (ht : t < 4294967296) (p : List UInt8) (hp : p.length = 54) : cf (evFn cx0 ext0 n) 41 [.v (.int .i64 k), .v (.int .u32 t), .agg (u8l p)] = some (putV k t p) := by
  obtain ⟨m, rfl⟩ : ∃ m, n = m + 1 := ⟨n - 1, by omega⟩
  obtain ⟨m', rfl⟩ : ∃ m', m = m' + 10 := ⟨m - 10, by omega⟩
  have m1 : cf (evFn cx0 ext0 (m' + 10)) 45 [.v (.int .i64 k)] = _ := may_ev (m' + 9) k
  have aB := al_a hB
  have zl : (zero 64).length = 64 := rfl
  unfold cf
  rw [E_seal_Put]
  refine ends_cf (P := Try.prog) ?_
  unfold F_seal_Put
  by_cases hk : mayK k
  case neg =>
    rw [decide_eq_false hk] at m1
    rw [show putV k t p = _ from if_neg hk]
    have l1 := ld_a hB (bx := [u8l p, u8l (zero 64), u8l (zero 64)]) (k := 2) rfl zl
    have s1 := st_a hB (bx := [u8l p, u8l (zero 64), u8l (zero 64)]) (k := 1) (c := zero 64) rfl zl zl
    simp only [List.set_cons_succ, List.set_cons_zero] at s1
    have stq := (And.intro (box_agg) (And.intro (aB) (And.intro (m1) (And.intro (n_ft) (And.intro (l1) (s1))))))
    repeat first
      | ((with_reducible apply ends_bind); case h => first | (simp only [stp, stq]; first | done | rfl) | rfl)
      | ((with_reducible apply ends_t); case h => first | rfl | (simp only [stp, stq]; done))
      | ((with_reducible apply ends_f); case h => first | rfl | (simp only [stp, stq]; done))
    exact ends_some (retq_ct (ld_a hB (b := zero 64) rfl zl) (frz_agg _ _ _ _))
  rw [decide_eq_true hk] at m1
  rw [show putV k t p = _ from if_pos hk]
  unfold mayK at hk
  obtain ⟨k, rfl⟩ : ∃ j : Nat, k = j := ⟨k.toNat, by omega⟩
  simp only [Int.toNat_natCast]
  have s1 := sl_a hB (bx := [u8l p, u8l (zero 64), u8l (zero 64)]) (k := 2) rfl zl
  have s2 := sl_a hL (bx := [u8l p, u8l (zero 64), u8l (zero 64)]) (k := 0) rfl hp
  have y1 : readA [u8l p, u8l (zero 64), u8l (zero 64)] (.bsl 0 0 54 1) = some (p.length, u8l p) := by
    rw [rd_b (b := p) rfl, hp, List.drop_zero, List.take_of_length_le (by omega)]
  have c1 := cp_b t8 (bx := [u8l p, u8l (zero 64), u8l (zero 64)]) (k := 2) (off := 0) (n := 64) (b := zero 64) (d := p) (y := .bsl 0 0 54 1) rfl (by rw [zl]; omega) y1 (by omega)
  rw [hp] at c1
  simp only [List.set_cons_succ, List.set_cons_zero, List.take_zero, List.nil_append] at c1
  have d1 : (zero 64).drop (0 + 54) = zero 10 := rfl
  rw [d1] at c1
  have v1 : ∀ bx, convA Try.prog bx 3 5 (.v (.int .i64 k)) = some (u8 (UInt8.ofNat k), bx) := fun bx => by rw [cvi8, wr8]
  have e1 : IntKind.i64.wrap (255 - (k : Int)) = ((255 - k : Nat) : Int) := by rw [wrap64]; omega
  have v2 : ∀ bx, convA Try.prog bx 3 5 (.v (.int .i64 (255 - k : Nat))) = some (u8 (UInt8.ofNat (255 - k)), bx) := fun bx => by rw [cvi8, wr8]
  have i1 : indexAddrA Try.prog 23 (.bp 2 0) (.v (.int .i64 54)) = some (.bp 2 54) := ix_a hB 2 0 .i64 54 (by omega)
  have i2 : indexAddrA Try.prog 23 (.bp 2 0) (.v (.int .i64 55)) = some (.bp 2 55) := ix_a hB 2 0 .i64 55 (by omega)
  have w1 := st_b8 (P := Try.prog) (t := 5) (by kernel_rfl) [u8l p, u8l (zero 64), u8l (p ++ zero 10)] 2 54 (p ++ zero 10) (UInt8.ofNat k) rfl (by simp [zero, hp])
  have b2 : (p ++ zero 10).set 54 (UInt8.ofNat k) = p ++ UInt8.ofNat k :: zero 9 := by
    rw [List.set_append_right _ _ (by omega), hp]
    rfl
  rw [b2] at w1
  simp only [List.set_cons_succ, List.set_cons_zero] at w1
  have w2 := st_b8 (P := Try.prog) (t := 5) (by kernel_rfl) [u8l p, u8l (zero 64), u8l (p ++ UInt8.ofNat k :: zero 9)] 2 55 (p ++ UInt8.ofNat k :: zero 9) (UInt8.ofNat (255 - k)) rfl (by simp [zero, hp])
  have b3 : (p ++ UInt8.ofNat k :: zero 9).set 55 (UInt8.ofNat (255 - k)) = p ++ UInt8.ofNat k :: UInt8.ofNat (255 - k) :: zero 8 := by
    rw [List.set_append_right _ _ (by omega), hp]
    rfl
  rw [b3] at w2
  simp only [List.set_cons_succ, List.set_cons_zero] at w2
  have c2 : cf (evFn cx0 ext0 (m' + 10)) 51 [.v (.int .u32 t)] = some (.agg (u8l (q32 t))) := put32_ev m' t
  have a4 := al_a h4
  have b3l : (p ++ UInt8.ofNat k :: UInt8.ofNat (255 - k) :: zero 8).length = 64 := by simp [zero, hp]
  have hdl := hd_len k t p hp
  have b4l : (hd k t p ++ zero 4).length = 64 := by simp [zero, hdl]
  have w3 := st_a h4 (bx := [u8l p, u8l (zero 64), u8l (p ++ UInt8.ofNat k :: UInt8.ofNat (255 - k) :: zero 8), u8l (zero 4)]) (k := 3) (b := zero 4) (c := q32 t) rfl rfl rfl
  simp only [List.set_cons_succ, List.set_cons_zero] at w3
  have s3 : sliceA Try.prog [u8l p, u8l (zero 64), u8l (p ++ UInt8.ofNat k :: UInt8.ofNat (255 - k) :: zero 8), u8l (q32 t)] 23 (.bp 2 0) (some (.v (.int .i64 56))) none none = some (.bsl 2 56 8 1) := sl_alo hB (k := 2) rfl b3l .i64 56 (by omega)
  have s4 := sl_a h4 (bx := [u8l p, u8l (zero 64), u8l (p ++ UInt8.ofNat k :: UInt8.ofNat (255 - k) :: zero 8), u8l (q32 t)]) (k := 3) (b := q32 t) rfl rfl
  have y2 : readA [u8l p, u8l (zero 64), u8l (p ++ UInt8.ofNat k :: UInt8.ofNat (255 - k) :: zero 8), u8l (q32 t)] (.bsl 3 0 4 1) = some ((q32 t).length, u8l (q32 t)) := rd_b (b := q32 t) rfl
  have c3 := cp_b t8 (k := 2) (off := 56) (n := 8) (b := p ++ UInt8.ofNat k :: UInt8.ofNat (255 - k) :: zero 8) (d := q32 t) (y := .bsl 3 0 4 1) rfl (by omega) y2 (by rw [q32_len]; omega)
  have b4 : (p ++ UInt8.ofNat k :: UInt8.ofNat (255 - k) :: zero 8).take 56 ++ q32 t ++ (p ++ UInt8.ofNat k :: UInt8.ofNat (255 - k) :: zero 8).drop (56 + 4) = hd k t p ++ zero 4 := by
    have e1 : p ++ UInt8.ofNat k :: UInt8.ofNat (255 - k) :: zero 8 = (p ++ [UInt8.ofNat k, UInt8.ofNat (255 - k)]) ++ zero 8 := by simp
    have e2 : (p ++ [UInt8.ofNat k, UInt8.ofNat (255 - k)]).length = 56 := by simp [hp]
    rw [e1, List.take_left' e2, ← List.drop_drop, List.drop_left' e2]
    rfl
  rw [q32_len, b4] at c3
  simp only [List.set_cons_succ, List.set_cons_zero] at c3
  have s5 : sliceA Try.prog [u8l p, u8l (zero 64), u8l (hd k t p ++ zero 4), u8l (q32 t)] 23 (.bp 2 0) none (some (.v (.int .i64 60))) none = some (.bsl 2 0 60 1) := sl_ahi hB (k := 2) rfl b4l .i64 60 (by omega)
  have z1 : frz [u8l p, u8l (zero 64), u8l (hd k t p ++ zero 4), u8l (q32 t), [.bsl 2 0 60 1]] true 6 (.bsl 4 0 1 1) = .sl 1 [byt true (hd k t p)] true := by
    show AV.sl 1 [frz _ true 5 (.bsl 2 0 60 1)] true = _
    rw [frz_bo (b := hd k t p ++ zero 4) true rfl (by omega), List.drop_zero, List.take_left' hdl]
  have o1 := of1 (n := m' + 10) true true (hd k t p) (by omega) (by omega)
  have c4 : cf (evFn cx0 ext0 (m' + 10)) 51 [v32 (sum (hd k t p))] = some (.agg (u8l (q32 (crc (hd k t p))))) := put32_ev m' (crc (hd k t p))
  have w4 := st_a h4 (bx := [u8l p, u8l (zero 64), u8l (hd k t p ++ zero 4), u8l (q32 t), [.bsl 2 0 60 1], u8l (zero 4)]) (k := 5) (b := zero 4) (c := q32 (crc (hd k t p))) rfl rfl rfl
  simp only [List.set_cons_succ, List.set_cons_zero] at w4
  have s6 : sliceA Try.prog [u8l p, u8l (zero 64), u8l (hd k t p ++ zero 4), u8l (q32 t), [.bsl 2 0 60 1], u8l (q32 (crc (hd k t p)))] 23 (.bp 2 0) (some (.v (.int .i64 60))) none none = some (.bsl 2 60 4 1) := sl_alo hB (k := 2) rfl b4l .i64 60 (by omega)
  have s7 := sl_a h4 (bx := [u8l p, u8l (zero 64), u8l (hd k t p ++ zero 4), u8l (q32 t), [.bsl 2 0 60 1], u8l (q32 (crc (hd k t p)))]) (k := 5) (b := q32 (crc (hd k t p))) rfl rfl
  have y3 : readA [u8l p, u8l (zero 64), u8l (hd k t p ++ zero 4), u8l (q32 t), [.bsl 2 0 60 1], u8l (q32 (crc (hd k t p)))] (.bsl 5 0 4 1) = some ((q32 (crc (hd k t p))).length, u8l (q32 (crc (hd k t p)))) := rd_b (b := q32 (crc (hd k t p))) rfl
  have c5 := cp_b t8 (k := 2) (off := 60) (n := 4) (b := hd k t p ++ zero 4) (d := q32 (crc (hd k t p))) (y := .bsl 5 0 4 1) rfl (by omega) y3 (by rw [q32_len]; omega)
  have b5 : (hd k t p ++ zero 4).take 60 ++ q32 (crc (hd k t p)) ++ (hd k t p ++ zero 4).drop (60 + 4) = blk k t p := by
    rw [List.take_left' hdl, List.drop_of_length_le (by omega), List.append_nil]
    rfl
  rw [q32_len, b5] at c5
  simp only [List.set_cons_succ, List.set_cons_zero] at c5
  have bl := blk_len k t p hp
  have l1 := ld_a hB (bx := [u8l p, u8l (zero 64), u8l (blk k t p), u8l (q32 t), [.bsl 2 0 60 1], u8l (q32 (crc (hd k t p)))]) (k := 2) (b := blk k t p) rfl bl
  have w5 := st_a hB (bx := [u8l p, u8l (zero 64), u8l (blk k t p), u8l (q32 t), [.bsl 2 0 60 1], u8l (q32 (crc (hd k t p)))]) (k := 1) (b := zero 64) (c := blk k t p) rfl zl bl
  simp only [List.set_cons_succ, List.set_cons_zero] at w5
  have stq := (And.intro (box_agg) (And.intro (aB) (And.intro (m1) (And.intro (n_tf) (And.intro (s1) (And.intro (s2) (And.intro (c1) (And.intro (v1) (And.intro (e1) (And.intro (v2) (And.intro (i1) (And.intro (i2) (And.intro (w1) (And.intro (w2) (And.intro (c2) (And.intro (a4) (And.intro (w3) (And.intro (s3) (And.intro (s4) (And.intro (c3) (And.intro (s5) (And.intro (bs1o) (And.intro (z1) (And.intro (o1) (And.intro (c4) (And.intro (w4) (And.intro (s6) (And.intro (s7) (And.intro (c5) (And.intro (l1) (w5)))))))))))))))))))))))))))))))
  repeat first
    | ((with_reducible apply ends_bind); case h => first | (simp only [stp, stq]; first | done | rfl) | rfl)
    | ((with_reducible apply ends_t); case h => first | rfl | (simp only [stp, stq]; done))
    | ((with_reducible apply ends_f); case h => first | rfl | (simp only [stp, stq]; done))
  exact ends_some (retq_ct (ld_a hB (b := blk k t p) rfl bl) (frz_agg _ _ _ _))

theorem ap_u (A B c d : List UInt8) (y : AV) (m m' : Nat) (hm : m = c.length) (hm' : m' = c.length + d.length) (hy : readA [u8l A, u8l B, u8l c] y = some (d.length, u8l d)) (hc : c.length < 2 ^ 32) (hd : d.length < 2 ^ 32) :
    appA Try.prog 0 [u8l A, u8l B, u8l c] 31 (.bsl 2 0 m 1) y = some (.bsl 2 0 m' 1, AV.keep (· != 2), [u8l A, u8l B, u8l (c ++ d)]) := by
  rw [appV t8 0 _ y 2 c d m rfl (by omega) hy hd hc hm, ← hm']
  simp only [List.map_cons, List.map_nil, u8l_keep, List.set_cons_succ, List.set_cons_zero]
theorem ap_u4 (A B D c d : List UInt8) (y : AV) (m m' : Nat) (hm : m = c.length) (hm' : m' = c.length + d.length) (hy : readA [u8l A, u8l B, u8l c, u8l D] y = some (d.length, u8l d)) (hc : c.length < 2 ^ 32) (hd : d.length < 2 ^ 32) :
    appA Try.prog 0 [u8l A, u8l B, u8l c, u8l D] 31 (.bsl 2 0 m 1) y = some (.bsl 2 0 m' 1, AV.keep (· != 2), [u8l A, u8l B, u8l (c ++ d), u8l D]) := by
  rw [appV t8 0 _ y 2 c d m rfl (by omega) hy hd hc hm, ← hm']
  simp only [List.map_cons, List.map_nil, u8l_keep, List.set_cons_succ, List.set_cons_zero]
theorem bs2b (bx : Bx) (a b : UInt8) : buildSliceA Try.prog bx 31 2 [(0, u8 a), (1, u8 b)] = some (.bsl bx.length 0 2 1, bx ++ [u8l [a, b]]) := by kernel_rfl
theorem bs0b (bx : Bx) : buildSliceA Try.prog bx 31 0 [] = some (.bsl bx.length 0 0 1, bx ++ [u8l []]) := by kernel_rfl
theorem rPut_ev {n : Nat} (hn : 410 ≤ n) (k : Int) (t : Nat) (ht : t < 4294967296) (p : List UInt8) (hp : p.length = 54) : cf (evFn cx0 ext0 n) 48 [.v (.int .i64 k), .v (.int .u32 t), .agg (u8l p)] = some (putV k t p) := by
  obtain ⟨m, rfl⟩ : ∃ m, n = m + 1 := ⟨n - 1, by omega⟩
  obtain ⟨m', rfl⟩ : ∃ m', m = m' + 1 := ⟨m - 1, by omega⟩
  have m1 : cf (evFn cx0 ext0 (m' + 1)) 30 [.v (.int .i64 k)] = _ := rmay_ev m' k
  have aB := al_a hB
  have zl : (zero 64).length = 64 := rfl
  have zB := z_a hB
  unfold cf
  rw [E_r07_Put]
  refine ends_cf (P := Try.prog) ?_
  unfold F_r07_Put
  by_cases hk : mayK k
  case neg =>
    rw [decide_eq_false hk] at m1
    rw [show putV k t p = _ from if_neg hk]
    have s1 := st_a hB (bx := [u8l p, u8l (zero 64)]) (k := 1) (c := zero 64) rfl zl zl
    simp only [List.set_cons_succ, List.set_cons_zero] at s1
    have stq := (And.intro (box_agg) (And.intro (aB) (And.intro (m1) (And.intro (n_ft) (And.intro (zB) (s1))))))
    repeat first
      | ((with_reducible apply ends_bind); case h => first | (simp only [stp, stq]; first | done | rfl) | rfl)
      | ((with_reducible apply ends_t); case h => first | rfl | (simp only [stp, stq]; done))
      | ((with_reducible apply ends_f); case h => first | rfl | (simp only [stp, stq]; done))
    exact ends_some (retq_ct (ld_a hB (b := zero 64) rfl zl) (frz_agg _ _ _ _))
  rw [decide_eq_true hk] at m1
  rw [show putV k t p = _ from if_pos hk]
  unfold mayK at hk
  obtain ⟨k, rfl⟩ : ∃ j : Nat, k = j := ⟨k.toNat, by omega⟩
  simp only [Int.toNat_natCast]
  have s2 := sl_a hL (bx := [u8l p, u8l (zero 64), u8l []]) (k := 0) rfl hp
  have y1 : readA [u8l p, u8l (zero 64), u8l []] (.bsl 0 0 54 1) = some (p.length, u8l p) := by
    rw [rd_b (b := p) rfl, hp, List.drop_zero, List.take_of_length_le (by omega)]
  have a1 := ap_u p (zero 64) [] p (.bsl 0 0 54 1) 0 54 rfl (by simp [hp]) y1 (by simp) (by omega)
  rw [List.nil_append] at a1
  have k1 : ∀ q x, AV.keep q (.v x) = .v x := fun _ _ => rfl
  have k2 : AV.keep (fun x => x != 2) (.bp 1 0) = .bp 1 0 := rfl
  have v1 : ∀ bx, convA Try.prog bx 3 5 (.v (.int .i64 k)) = some (u8 (UInt8.ofNat k), bx) := fun bx => by rw [cvi8, wr8]
  have e1 : IntKind.i64.wrap (255 - (k : Int)) = ((255 - k : Nat) : Int) := by rw [wrap64]; omega
  have v2 : ∀ bx, convA Try.prog bx 3 5 (.v (.int .i64 (255 - k : Nat))) = some (u8 (UInt8.ofNat (255 - k)), bx) := fun bx => by rw [cvi8, wr8]
  have a2 := ap_u4 p (zero 64) [UInt8.ofNat k, UInt8.ofNat (255 - k)] p [UInt8.ofNat k, UInt8.ofNat (255 - k)] (.bsl 3 0 2 1) 54 56 hp.symm (by simp [hp]) rfl (by omega) (by simp)
  have c2 : cf (evFn cx0 ext0 (m' + 1)) 55 [.v (.int .u32 t)] = some (byt false (q32 t)) := rput32_ev m' t ht
  have l56 : (p ++ [UInt8.ofNat k, UInt8.ofNat (255 - k)]).length = 56 := by simp [hp]
  have a3 := ap_u4 p (zero 64) [UInt8.ofNat k, UInt8.ofNat (255 - k)] (p ++ [UInt8.ofNat k, UInt8.ofNat (255 - k)]) (q32 t) (byt false (q32 t)) 56 60 l56.symm (by rw [l56, q32_len]) rfl (by omega) (by rw [q32_len]; omega)
  have hdl := hd_len k t p hp
  rw [show p ++ [UInt8.ofNat k, UInt8.ofNat (255 - k)] ++ q32 t = hd k t p from rfl] at a3
  have z1 : frz [u8l p, u8l (zero 64), u8l (hd k t p), u8l [UInt8.ofNat k, UInt8.ofNat (255 - k)]] true 6 (.bsl 2 0 60 1) = byt true (hd k t p) := frz_b8 (b := hd k t p) true rfl hdl.symm
  have o1 := rof_ev (n := m' + 1) true (hd k t p) (by omega) (by omega)
  have c4 : cf (evFn cx0 ext0 (m' + 1)) 55 [v32 (sum (hd k t p))] = some (byt false (q32 (crc (hd k t p)))) := rput32_ev m' (crc (hd k t p)) (crc_lt _)
  have a4 := ap_u4 p (zero 64) [UInt8.ofNat k, UInt8.ofNat (255 - k)] (hd k t p) (q32 (crc (hd k t p))) (byt false (q32 (crc (hd k t p)))) 60 64 hdl.symm (by rw [hdl, q32_len]) rfl (by omega) (by rw [q32_len]; omega)
  rw [show hd k t p ++ q32 (crc (hd k t p)) = blk k t p from rfl] at a4
  have bl := blk_len k t p hp
  have p1 := ap_b hB 2 0 64 (by omega)
  have l1 := ld_a hB (bx := [u8l p, u8l (zero 64), u8l (blk k t p), u8l [UInt8.ofNat k, UInt8.ofNat (255 - k)]]) (k := 2) (b := blk k t p) rfl bl
  have w5 := st_a hB (bx := [u8l p, u8l (zero 64), u8l (blk k t p), u8l [UInt8.ofNat k, UInt8.ofNat (255 - k)]]) (k := 1) (b := zero 64) (c := blk k t p) rfl zl bl
  simp only [List.set_cons_succ, List.set_cons_zero] at w5
  have stq := (And.intro (box_agg) (And.intro (aB) (And.intro (m1) (And.intro (n_tf) (And.intro (bs0b) (And.intro (s2) (And.intro (a1) (And.intro (k1) (And.intro (k2) (And.intro (v1) (And.intro (e1) (And.intro (v2) (And.intro (bs2b) (And.intro (a2) (And.intro (c2) (And.intro (a3) (And.intro (z1) (And.intro (o1) (And.intro (c4) (And.intro (a4) (And.intro (p1) (And.intro (l1) (w5)))))))))))))))))))))))
  repeat first
    | ((with_reducible apply ends_bind); case h => first | (simp only [stp, stq]; first | done | rfl) | rfl)
    | ((with_reducible apply ends_t); case h => first | rfl | (simp only [stp, stq]; done))
    | ((with_reducible apply ends_f); case h => first | rfl | (simp only [stp, stq]; done))
  exact ends_some (retq_ct (ld_a hB (b := blk k t p) rfl bl) (frz_agg _ _ _ _))

theorem getV_ok (K : IntKind) (b : List UInt8) (a : Nat) (h : a + 4 ≤ b.length) : getV K b a 4 = .tup [.v (.int K (le ((b.drop a).take 4) : Nat)), .v (.int .i64 0)] := by
  unfold getV
  rw [if_neg (by omega)]
  rfl
theorem turnOf_ev {n : Nat} (hn : 20 ≤ n) (b : List UInt8) (hb : b.length = 64) : cf (evFn cx0 ext0 n) 47 [.agg (u8l b)] = some (.v (.int .u32 (tn b))) := by
  obtain ⟨m, rfl⟩ : ∃ m, n = m + 1 := ⟨n - 1, by omega⟩
  have s1 := sl_a hB (bx := [u8l b]) (k := 0) rfl hb
  have z1 : frz [u8l b] true 6 (.bsl 0 0 64 1) = byt true b := frz_b8 (b := b) true rfl hb.symm
  have g1 := Get32_ev (m := m) (by omega) b true 56 (by omega) (by omega)
  rw [show getV .u32 b 56 4 = _ from getV_ok .u32 b 56 (by omega)] at g1
  unfold cf
  rw [E_seal_turnOf]
  refine ends_cf (P := Try.prog) ?_
  unfold F_seal_turnOf
  have stq := (And.intro (box_agg) (And.intro (s1) (And.intro (z1) (g1))))
  repeat first
    | ((with_reducible apply ends_bind); case h => first | (simp only [stp, stq]; first | done | rfl) | rfl)
    | ((with_reducible apply ends_t); case h => first | rfl | (simp only [stp, stq]; done))
    | ((with_reducible apply ends_f); case h => first | rfl | (simp only [stp, stq]; done))
  exact ends_some ⟨.inl rfl, _, rfl, rfl⟩
theorem kd_get (b : List UInt8) (hb : b.length = 64) : (b[54]'(by omega)).toNat = kd b ∧ (b[55]'(by omega)).toNat = kd' b := by
  unfold kd kd'
  constructor
  · rw [List.getD_eq_getElem?_getD, List.getElem?_eq_getElem (by omega)]; rfl
  · rw [List.getD_eq_getElem?_getD, List.getElem?_eq_getElem (by omega)]; rfl
theorem right_ev {n : Nat} (hn : 420 ≤ n) (b : List UInt8) (hb : b.length = 64) : cf (evFn cx0 ext0 n) 46 [.agg (u8l b)] = some (.v (.bool (right b))) := by
  obtain ⟨m, rfl⟩ : ∃ m, n = m + 1 := ⟨n - 1, by omega⟩
  have i1 : indexAddrA Try.prog 23 (.bp 0 0) (.v (.int .i64 54)) = some (.bp 0 54) := ix_a hB 0 0 .i64 54 (by omega)
  have q1 := ld_b8 (P := Try.prog) (t := 5) (by kernel_rfl) (by kernel_rfl) [u8l b] 0 54 b rfl (by omega)
  have v1 : ∀ bx, convA Try.prog bx 5 3 (u8 (b[54]'(by omega))) = some (.v (.int .i64 (kd b)), bx) := fun bx => by rw [cv_8_64, w8, (kd_get b hb).1]
  have aB := al_a hB
  have l0 := ld_a hB (bx := [u8l b, u8l (zero 64)]) (k := 0) (b := b) rfl hb
  have t1 := turnOf_ev (n := m) (by omega) b hb
  have s1 : sliceA Try.prog [u8l b, u8l (zero 64)] 23 (.bp 0 0) none (some (.v (.int .i64 54))) none = some (.bsl 0 0 54 1) := sl_ahi hB (k := 0) rfl hb .i64 54 (by omega)
  have p1 := ap_b hL 0 0 54 (by omega)
  have l1 := ld_ao hL (bx := [u8l b, u8l (zero 64)]) (k := 0) (off := 0) (b := b) rfl (by omega)
  rw [List.drop_zero, show b.take 54 = ld b from rfl] at l1
  have c1 := Put_ev (n := m) (by omega) (kd b) (tn b) (tn_lt b) (ld b) (ld_len b hb)
  have zl : (zero 64).length = 64 := rfl
  unfold cf
  rw [E_seal_right]
  refine ends_cf (P := Try.prog) ?_
  unfold F_seal_right
  by_cases hk : mayK (kd b)
  · rw [show putV (kd b) (tn b) (ld b) = _ from if_pos hk] at c1
    simp only [Int.toNat_natCast] at c1
    have bl := blk_len (kd b) (tn b) (ld b) (ld_len b hb)
    have w1 := st_a hB (bx := [u8l b, u8l (zero 64)]) (k := 1) (b := zero 64) (c := blk (kd b) (tn b) (ld b)) rfl zl bl
    simp only [List.set_cons_succ, List.set_cons_zero] at w1
    have l2 := ld_a hB (bx := [u8l b, u8l (blk (kd b) (tn b) (ld b))]) (k := 1) (b := blk (kd b) (tn b) (ld b)) rfl bl
    have l3 := ld_a hB (bx := [u8l b, u8l (blk (kd b) (tn b) (ld b))]) (k := 0) (b := b) rfl hb
    have e1 := eq_a hB (a := blk (kd b) (tn b) (ld b)) (b := b) bl hb
    rw [blk_eq b hb hk] at e1
    have r1 : right b = decide (kd' b = 255 - kd b ∧ sm b = crc (b.take 60)) := by
      unfold right
      rw [decide_eq_true hk]
      rfl
    rw [← r1] at e1
    have stq := (And.intro (box_agg) (And.intro (i1) (And.intro (q1) (And.intro (v1) (And.intro (aB) (And.intro (l0) (And.intro (frz_agg) (And.intro (t1) (And.intro (s1) (And.intro (p1) (And.intro (l1) (And.intro (c1) (And.intro (w1) (And.intro (l2) (And.intro (l3) (e1))))))))))))))))
    repeat first
      | ((with_reducible apply ends_bind); case h => first | (simp only [stp, stq]; first | done | rfl) | rfl)
      | ((with_reducible apply ends_t); case h => first | rfl | (simp only [stp, stq]; done))
      | ((with_reducible apply ends_f); case h => first | rfl | (simp only [stp, stq]; done))
    exact ends_some ⟨.inl rfl, _, rfl, by cases right b <;> rfl⟩
  · rw [show putV (kd b) (tn b) (ld b) = _ from if_neg hk] at c1
    have w1 := st_a hB (bx := [u8l b, u8l (zero 64)]) (k := 1) (b := zero 64) (c := zero 64) rfl zl zl
    simp only [List.set_cons_succ, List.set_cons_zero] at w1
    have r1 : right b = false := by
      unfold right
      rw [decide_eq_false hk]
      rfl
    rw [r1]
    have q : ((2 : Int) == 0) = false := rfl
    have stq := (And.intro (box_agg) (And.intro (i1) (And.intro (q1) (And.intro (v1) (And.intro (aB) (And.intro (l0) (And.intro (frz_agg) (And.intro (t1) (And.intro (s1) (And.intro (p1) (And.intro (l1) (And.intro (c1) (And.intro (w1) (q))))))))))))))
    repeat first
      | ((with_reducible apply ends_bind); case h => first | (simp only [stp, stq]; first | done | rfl) | rfl)
      | ((with_reducible apply ends_t); case h => first | rfl | (simp only [stp, stq]; done))
      | ((with_reducible apply ends_f); case h => first | rfl | (simp only [stp, stq]; done))
    exact ends_some ⟨.inl rfl, _, rfl, rfl⟩
/-- what 'Get' answers -/
def gotV (k : Int) (b : List UInt8) : AV := if mayK k then (if kd b = k ∧ right b = true then .tup [.agg (u8l (ld b)), .v (.int .u32 (tn b)), .v (.int .i64 0)] else .tup [.agg (u8l (zero 54)), .v (.int .u32 0), .v (.int .i64 21)]) else .tup [.agg (u8l (zero 54)), .v (.int .u32 0), .v (.int .i64 2)]
theorem Get_ev {n : Nat} (hn : 430 ≤ n) (k : Int) (b : List UInt8) (hb : b.length = 64) : cf (evFn cx0 ext0 n) 33 [.v (.int .i64 k), .agg (u8l b)] = some (gotV k b) := by
  obtain ⟨m, rfl⟩ : ∃ m, n = m + 1 := ⟨n - 1, by omega⟩
  obtain ⟨m', rfl⟩ : ∃ m', m = m' + 1 := ⟨m - 1, by omega⟩
  have m1 : cf (evFn cx0 ext0 (m' + 1)) 45 [.v (.int .i64 k)] = _ := may_ev m' k
  have aL := al_a hL
  have zL := z_a hL
  have zl : (zero 54).length = 54 := rfl
  have w0 := st_a hL (bx := [u8l b, u8l (zero 54)]) (k := 1) (b := zero 54) (c := zero 54) rfl zl zl
  simp only [List.set_cons_succ, List.set_cons_zero] at w0
  unfold cf
  rw [E_seal_Get]
  refine ends_cf (P := Try.prog) ?_
  unfold F_seal_Get
  by_cases hk : mayK k
  case neg =>
    rw [decide_eq_false hk] at m1
    rw [show gotV k b = _ from if_neg hk]
    have stq := (And.intro (box_agg) (And.intro (aL) (And.intro (m1) (And.intro (n_ft) (And.intro (zL) (w0))))))
    repeat first
      | ((with_reducible apply ends_bind); case h => first | (simp only [stp, stq]; first | done | rfl) | rfl)
      | ((with_reducible apply ends_t); case h => first | rfl | (simp only [stp, stq]; done))
      | ((with_reducible apply ends_f); case h => first | rfl | (simp only [stp, stq]; done))
    exact ends_some (retq_ctt (ld_a hL (b := zero 54) rfl zl) (frz_agg _ _ _ _))
  rw [decide_eq_true hk] at m1
  rw [show gotV k b = _ from if_pos hk]
  have i1 : indexAddrA Try.prog 23 (.bp 0 0) (.v (.int .i64 54)) = some (.bp 0 54) := ix_a hB 0 0 .i64 54 (by omega)
  have q1 := ld_b8 (P := Try.prog) (t := 5) (by kernel_rfl) (by kernel_rfl) [u8l b, u8l (zero 54)] 0 54 b rfl (by omega)
  have v1 : ∀ bx, convA Try.prog bx 5 3 (u8 (b[54]'(by omega))) = some (.v (.int .i64 (kd b)), bx) := fun bx => by rw [cv_8_64, w8, (kd_get b hb).1]
  have l0 := ld_a hB (bx := [u8l b, u8l (zero 54)]) (k := 0) (b := b) rfl hb
  have r1 := right_ev (n := m' + 1) (by omega) b hb
  by_cases h1 : (kd b : Int) = k
  · have g1 : ((kd b : Int) != k) = false := by simpa using h1
    cases hr : right b
    · rw [hr] at r1
      rw [if_neg (by simp)]
      have stq := (And.intro (box_agg) (And.intro (aL) (And.intro (m1) (And.intro (n_tf) (And.intro (n_ft) (And.intro (i1) (And.intro (q1) (And.intro (v1) (And.intro (l0) (And.intro (frz_agg) (And.intro (r1) (And.intro (g1) (And.intro (zL) (w0))))))))))))))
      repeat first
        | ((with_reducible apply ends_bind); case h => first | (simp only [stp, stq]; first | done | rfl) | rfl)
        | ((with_reducible apply ends_t); case h => first | rfl | (simp only [stp, stq]; done))
        | ((with_reducible apply ends_f); case h => first | rfl | (simp only [stp, stq]; done))
      exact ends_some (retq_ctt (ld_a hL (b := zero 54) rfl zl) (frz_agg _ _ _ _))
    · rw [hr] at r1
      rw [if_pos ⟨h1, rfl⟩]
      have t1 := turnOf_ev (n := m' + 1) (by omega) b hb
      have s1 : sliceA Try.prog [u8l b, u8l (zero 54)] 23 (.bp 0 0) none (some (.v (.int .i64 54))) none = some (.bsl 0 0 54 1) := sl_ahi hB (k := 0) rfl hb .i64 54 (by omega)
      have p1 := ap_b hL 0 0 54 (by omega)
      have l1 := ld_ao hL (bx := [u8l b, u8l (zero 54)]) (k := 0) (off := 0) (b := b) rfl (by omega)
      rw [List.drop_zero, show b.take 54 = ld b from rfl] at l1
      have w1 := st_a hL (bx := [u8l b, u8l (zero 54)]) (k := 1) (b := zero 54) (c := ld b) rfl zl (ld_len b hb)
      simp only [List.set_cons_succ, List.set_cons_zero] at w1
      have stq := (And.intro (box_agg) (And.intro (aL) (And.intro (m1) (And.intro (n_tf) (And.intro (n_ft) (And.intro (i1) (And.intro (q1) (And.intro (v1) (And.intro (l0) (And.intro (frz_agg) (And.intro (r1) (And.intro (g1) (And.intro (s1) (And.intro (p1) (And.intro (l1) (And.intro (t1) (w1)))))))))))))))))
      repeat first
        | ((with_reducible apply ends_bind); case h => first | (simp only [stp, stq]; first | done | rfl) | rfl)
        | ((with_reducible apply ends_t); case h => first | rfl | (simp only [stp, stq]; done))
        | ((with_reducible apply ends_f); case h => first | rfl | (simp only [stp, stq]; done))
      exact ends_some (retq_ctt (ld_a hL (b := ld b) rfl (ld_len b hb)) (frz_agg _ _ _ _))
  · have g1 : ((kd b : Int) != k) = true := by simpa using h1
    rw [if_neg (fun h => h1 h.1)]
    have stq := (And.intro (box_agg) (And.intro (aL) (And.intro (m1) (And.intro (n_tf) (And.intro (i1) (And.intro (q1) (And.intro (v1) (And.intro (g1) (And.intro (zL) (w0))))))))))
    repeat first
      | ((with_reducible apply ends_bind); case h => first | (simp only [stp, stq]; first | done | rfl) | rfl)
      | ((with_reducible apply ends_t); case h => first | rfl | (simp only [stp, stq]; done))
      | ((with_reducible apply ends_f); case h => first | rfl | (simp only [stp, stq]; done))
    exact ends_some (retq_ctt (ld_a hL (b := zero 54) rfl zl) (frz_agg _ _ _ _))
/-- what 'Kind' answers -/
def kindV (b : List UInt8) : Int := if right b then kd b else 0
theorem Kind_ev {n : Nat} (hn : 430 ≤ n) (b : List UInt8) (hb : b.length = 64) : cf (evFn cx0 ext0 n) 34 [.agg (u8l b)] = some (.v (.int .i64 (kindV b))) := by
  obtain ⟨m, rfl⟩ : ∃ m, n = m + 1 := ⟨n - 1, by omega⟩
  have l0 := ld_a hB (bx := [u8l b]) (k := 0) (b := b) rfl hb
  have r1 := right_ev (n := m) (by omega) b hb
  unfold kindV
  unfold cf
  rw [E_seal_Kind]
  refine ends_cf (P := Try.prog) ?_
  unfold F_seal_Kind
  cases hr : right b
  · rw [hr] at r1
    have stq := (And.intro (box_agg) (And.intro (l0) (And.intro (frz_agg) (And.intro (r1) (n_ft)))))
    repeat first
      | ((with_reducible apply ends_bind); case h => first | (simp only [stp, stq]; first | done | rfl) | rfl)
      | ((with_reducible apply ends_t); case h => first | rfl | (simp only [stp, stq]; done))
      | ((with_reducible apply ends_f); case h => first | rfl | (simp only [stp, stq]; done))
    exact ends_some ⟨.inl rfl, _, rfl, rfl⟩
  · rw [hr] at r1
    have i1 : indexAddrA Try.prog 23 (.bp 0 0) (.v (.int .i64 54)) = some (.bp 0 54) := ix_a hB 0 0 .i64 54 (by omega)
    have q1 := ld_b8 (P := Try.prog) (t := 5) (by kernel_rfl) (by kernel_rfl) [u8l b] 0 54 b rfl (by omega)
    have v1 : ∀ bx, convA Try.prog bx 5 3 (u8 (b[54]'(by omega))) = some (.v (.int .i64 (kd b)), bx) := fun bx => by rw [cv_8_64, w8, (kd_get b hb).1]
    have stq := (And.intro (box_agg) (And.intro (l0) (And.intro (frz_agg) (And.intro (r1) (And.intro (n_tf) (And.intro (i1) (And.intro (q1) (v1))))))))
    repeat first
      | ((with_reducible apply ends_bind); case h => first | (simp only [stp, stq]; first | done | rfl) | rfl)
      | ((with_reducible apply ends_t); case h => first | rfl | (simp only [stp, stq]; done))
      | ((with_reducible apply ends_f); case h => first | rfl | (simp only [stp, stq]; done))
    exact ends_some ⟨.inl rfl, _, rfl, rfl⟩

theorem gotV_eq (k : Int) (b : List UInt8) (hk : mayK k) : gotV k b = if (kd b : Int) = k ∧ kd' b = 255 - kd b ∧ sm b = crc (b.take 60) then .tup [.agg (u8l (ld b)), .v (.int .u32 (tn b)), .v (.int .i64 0)] else .tup [.agg (u8l (zero 54)), .v (.int .u32 0), .v (.int .i64 21)] := by
  rw [show gotV k b = _ from if_pos hk]
  by_cases h1 : (kd b : Int) = k
  · have hr : right b = decide (kd' b = 255 - kd b ∧ sm b = crc (b.take 60)) := by
      unfold right
      rw [decide_eq_true (by rw [h1]; exact hk)]
      rfl
    by_cases h2 : kd' b = 255 - kd b ∧ sm b = crc (b.take 60)
    · rw [if_pos ⟨h1, by rw [hr]; exact decide_eq_true h2⟩, if_pos ⟨h1, h2⟩]
    · rw [if_neg (fun h => by rw [hr, decide_eq_false h2] at h; simp at h), if_neg (fun h => h2 h.2)]
  · rw [if_neg (fun h => h1 h.1), if_neg (fun h => h1 h.1)]
theorem rgv (K : IntKind) (b : List UInt8) (a : Nat) (h : a + 4 ≤ b.length) : getV K b a 4 = .tup [.v (.int K (le ((b.drop a).take 4) : Nat)), .v (.int .i64 0)] := by
  unfold getV
  rw [if_neg (by omega)]
  rfl
theorem rkd (b : List UInt8) (hb : b.length = 64) : (b[54]'(by omega)).toNat = kd b ∧ (b[55]'(by omega)).toNat = kd' b := by
  unfold kd kd'
  constructor
  · rw [List.getD_eq_getElem?_getD, List.getElem?_eq_getElem (by omega)]; rfl
  · rw [List.getD_eq_getElem?_getD, List.getElem?_eq_getElem (by omega)]; rfl
theorem rGet_ev {n : Nat} (hn : 430 ≤ n) (k : Int) (b : List UInt8) (hb : b.length = 64) : cf (evFn cx0 ext0 n) 12 [.v (.int .i64 k), .agg (u8l b)] = some (gotV k b) := by
  obtain ⟨m, rfl⟩ : ∃ m, n = m + 1 := ⟨n - 1, by omega⟩
  obtain ⟨m', rfl⟩ : ∃ m', m = m' + 1 := ⟨m - 1, by omega⟩
  have m1 : cf (evFn cx0 ext0 (m' + 1)) 30 [.v (.int .i64 k)] = _ := rmay_ev m' k
  have aL := al_a hL
  have zL := z_a hL
  have zl : (zero 54).length = 54 := rfl
  have lB := lds hB
  have lL := lds hL
  have sL := sts hL
  unfold cf
  rw [E_r07_Get]
  refine ends_cf (P := Try.prog) ?_
  unfold F_r07_Get
  by_cases hk : mayK k
  case neg =>
    rw [decide_eq_false hk] at m1
    rw [show gotV k b = _ from if_neg hk]
    have stq := (And.intro (box_agg) (And.intro (aL) (And.intro (m1) (And.intro (n_ft) (And.intro (zL) (And.intro (sL) (zl)))))))
    repeat first
      | ((with_reducible apply ends_bind); case h => first | (simp only [stp, stq]; first | done | rfl) | rfl)
      | ((with_reducible apply ends_t); case h => first | rfl | (simp only [stp, stq]; done))
      | ((with_reducible apply ends_f); case h => first | rfl | (simp only [stp, stq]; done))
    exact ends_some (retq_ctt (ld_a hL (b := zero 54) rfl zl) (frz_agg _ _ _ _))
  rw [decide_eq_true hk] at m1
  rw [gotV_eq k b hk]
  have s1 := sl_a hB (bx := [u8l b, u8l (zero 54)]) (k := 0) rfl hb
  have z1 : frz [u8l b, u8l (zero 54)] true 6 (.bsl 0 0 64 1) = byt true b := frz_b8 (b := b) true rfl hb.symm
  have g1 := rGet32_ev (m := m' + 1) (by omega) b true 56 (by omega) (by omega)
  rw [show getV .u32 b 56 4 = _ from rgv .u32 b 56 (by omega)] at g1
  have g2 := rGet32_ev (m := m' + 1) (by omega) b true 60 (by omega) (by omega)
  rw [show getV .u32 b 60 4 = _ from rgv .u32 b 60 (by omega)] at g2
  have i1 : indexAddrA Try.prog 23 (.bp 0 0) (.v (.int .i64 54)) = some (.bp 0 54) := ix_a hB 0 0 .i64 54 (by omega)
  have i2 : indexAddrA Try.prog 23 (.bp 0 0) (.v (.int .i64 55)) = some (.bp 0 55) := ix_a hB 0 0 .i64 55 (by omega)
  have q1 := ld_b8 (P := Try.prog) (t := 5) (by kernel_rfl) (by kernel_rfl) [u8l b, u8l (zero 54)] 0 54 b rfl (by omega)
  have q2 := ld_b8 (P := Try.prog) (t := 5) (by kernel_rfl) (by kernel_rfl) [u8l b, u8l (zero 54)] 0 55 b rfl (by omega)
  have v1 : ∀ bx, convA Try.prog bx 5 3 (u8 (b[54]'(by omega))) = some (.v (.int .i64 (kd b)), bx) := fun bx => by rw [cv_8_64, w8, (rkd b hb).1]
  have v2 : ∀ bx, convA Try.prog bx 5 3 (u8 (b[55]'(by omega))) = some (.v (.int .i64 (kd' b)), bx) := fun bx => by rw [cv_8_64, w8, (rkd b hb).2]
  have w0 := st_a hL (bx := [u8l b, u8l (zero 54)]) (k := 1) (b := zero 54) (c := zero 54) rfl zl zl
  simp only [List.set_cons_succ, List.set_cons_zero] at w0
  by_cases h1 : (kd b : Int) = k
  case neg =>
    have f1 : ((kd b : Int) != k) = true := by simpa using h1
    rw [if_neg (fun h => h1 h.1)]
    have stq := (And.intro (box_agg) (And.intro (aL) (And.intro (m1) (And.intro (n_tf) (And.intro (s1) (And.intro (z1) (And.intro (g1) (And.intro (g2) (And.intro (i1) (And.intro (q1) (And.intro (v1) (And.intro (f1) (And.intro (zL) (w0))))))))))))))
    repeat first
      | ((with_reducible apply ends_bind); case h => first | (simp only [stp, stq]; first | done | rfl) | rfl)
      | ((with_reducible apply ends_t); case h => first | rfl | (simp only [stp, stq]; done))
      | ((with_reducible apply ends_f); case h => first | rfl | (simp only [stp, stq]; done))
    exact ends_some (retq_ctt (ld_a hL (b := zero 54) rfl zl) (frz_agg _ _ _ _))
  have f1 : ((kd b : Int) != k) = false := by simpa using h1
  have hkk := hk
  unfold mayK at hkk
  have e1 : IntKind.i64.wrap (255 - k) = 255 - k := by rw [wrap64]; omega
  by_cases h2 : kd' b = 255 - kd b
  case neg =>
    have f2 : ((kd' b : Int) != 255 - k) = true := by
      have : (kd' b : Int) ≠ 255 - k := by omega
      simpa using this
    rw [if_neg (fun h => h2 h.2.1)]
    have stq := (And.intro (box_agg) (And.intro (aL) (And.intro (m1) (And.intro (n_tf) (And.intro (s1) (And.intro (z1) (And.intro (g1) (And.intro (g2) (And.intro (i1) (And.intro (q1) (And.intro (v1) (And.intro (f1) (And.intro (i2) (And.intro (q2) (And.intro (v2) (And.intro (e1) (And.intro (f2) (And.intro (zL) (w0)))))))))))))))))))
    repeat first
      | ((with_reducible apply ends_bind); case h => first | (simp only [stp, stq]; first | done | rfl) | rfl)
      | ((with_reducible apply ends_t); case h => first | rfl | (simp only [stp, stq]; done))
      | ((with_reducible apply ends_f); case h => first | rfl | (simp only [stp, stq]; done))
    exact ends_some (retq_ctt (ld_a hL (b := zero 54) rfl zl) (frz_agg _ _ _ _))
  have f2 : ((kd' b : Int) != 255 - k) = false := by
    have : (kd' b : Int) = 255 - k := by omega
    simpa using this
  have s2 : sliceA Try.prog [u8l b, u8l (zero 54)] 23 (.bp 0 0) none (some (.v (.int .i64 60))) none = some (.bsl 0 0 60 1) := sl_ahi hB (k := 0) rfl hb .i64 60 (by omega)
  have z2 : frz [u8l b, u8l (zero 54)] true 6 (.bsl 0 0 60 1) = byt true (b.take 60) := by
    have := frz_bo (bx := [u8l b, u8l (zero 54)]) (k := 0) (d := 4) (off := 0) (n := 60) (b := b) true rfl (by omega)
    rwa [List.drop_zero] at this
  have o1 := rof_ev (n := m' + 1) true (b.take 60) (by simp; omega) (by simp; omega)
  have ee : (((le ((b.drop 60).take 4) : Nat) : Int) != i32 (sum (b.take 60))) = !decide (sm b = crc (b.take 60)) := by
    have hc : i32 (sum (b.take 60)) = (crc (b.take 60) : Int) := rfl
    have hs : ((le ((b.drop 60).take 4) : Nat) : Int) = (sm b : Int) := rfl
    rw [hc, hs]
    by_cases h : sm b = crc (b.take 60)
    · rw [decide_eq_true h, h]
      simp
    · rw [decide_eq_false h]
      have : (sm b : Int) ≠ (crc (b.take 60) : Int) := by omega
      simpa using this
  by_cases h3 : sm b = crc (b.take 60)
  case neg =>
    rw [decide_eq_false h3] at ee
    rw [if_neg (fun h => h3 h.2.2)]
    have stq := (And.intro (box_agg) (And.intro (aL) (And.intro (m1) (And.intro (n_tf) (And.intro (n_ft) (And.intro (s1) (And.intro (z1) (And.intro (g1) (And.intro (g2) (And.intro (i1) (And.intro (q1) (And.intro (v1) (And.intro (f1) (And.intro (i2) (And.intro (q2) (And.intro (v2) (And.intro (e1) (And.intro (f2) (And.intro (s2) (And.intro (z2) (And.intro (o1) (And.intro (ee) (And.intro (zL) (w0))))))))))))))))))))))))
    repeat first
      | ((with_reducible apply ends_bind); case h => first | (simp only [stp, stq]; first | done | rfl) | rfl)
      | ((with_reducible apply ends_t); case h => first | rfl | (simp only [stp, stq]; done))
      | ((with_reducible apply ends_f); case h => first | rfl | (simp only [stp, stq]; done))
    exact ends_some (retq_ctt (ld_a hL (b := zero 54) rfl zl) (frz_agg _ _ _ _))
  rw [decide_eq_true h3] at ee
  rw [if_pos ⟨h1, h2, h3⟩]
  have w2 := st_a hL (bx := [u8l b, u8l (zero 54), u8l (zero 54)]) (k := 2) (b := zero 54) (c := zero 54) rfl zl zl
  simp only [List.set_cons_succ, List.set_cons_zero] at w2
  have stq := (And.intro (box_agg) (And.intro (aL) (And.intro (m1) (And.intro (n_tf) (And.intro (n_ft) (And.intro (s1) (And.intro (z1) (And.intro (g1) (And.intro (g2) (And.intro (i1) (And.intro (q1) (And.intro (v1) (And.intro (f1) (And.intro (i2) (And.intro (q2) (And.intro (v2) (And.intro (e1) (And.intro (f2) (And.intro (s2) (And.intro (z2) (And.intro (o1) (And.intro (ee) (And.intro (zL) (w2))))))))))))))))))))))))
  repeat first
    | ((with_reducible apply ends_bind); case h => first | (simp only [stp, stq]; first | done | rfl) | rfl)
    | ((with_reducible apply ends_t); case h => first | rfl | (simp only [stp, stq]; done))
    | ((with_reducible apply ends_f); case h => first | rfl | (simp only [stp, stq]; done))
  refine ends_loop (fun k' s => ∃ (j : Int) (y45 y9 y15 y6 y5 y0 y1 : AV) (c0 c1 c : List AV), s = ⟨[(12, .v (.int .i64 j)), (11, .bp 2 0), (45, y45), (9, y9), (7, .v (.int .u32 (tn b))), (15, y15), (6, y6), (5, y5), (4, .bp 1 0), (3, .bp 0 0), (0, y0), (1, y1)], [c0, c1, c]⟩ ∧ c0 = u8l b ∧ c1 = u8l (zero 54) ∧
    ∃ i : Nat, j = i ∧ i + k' = 54 ∧ c = u8l (b.take i ++ zero (54 - i))) 54 (by omega) ⟨_, _, _, _, _, _, _, _, _, _, _, rfl, rfl, rfl, 0, rfl, by omega, rfl⟩ ?_
  rintro k' s ⟨j, y45, y9, y15, y6, y5, y0, y1, c0, c1, c, rfl, rfl, rfl, i, rfl, hk', rfl⟩
  refine L_r07_Get_0_lit ?_
  unfold B_r07_Get_0
  rcases k' with _ | k'
  · have g0 : decide ((i : Int) < 54) = false := decide_eq_false (by omega)
    have stq := (g0)
    repeat first
      | ((with_reducible apply ends_bind); case h => first | (simp only [stp, stq]; first | done | rfl) | rfl)
      | ((with_reducible apply ends_t); case h => first | rfl | (simp only [stp, stq]; done))
      | ((with_reducible apply ends_f); case h => first | rfl | (simp only [stp, stq]; done))
    refine ends_some (.inr (.inl ⟨0, rfl, X_r07_Get_0_0_lit ?_⟩))
    unfold X_r07_Get_0_0
    have hi : i = 54 := by omega
    subst hi
    have ec : b.take 54 ++ zero (54 - 54) = ld b := by
      rw [show zero (54 - 54) = [] from rfl, List.append_nil]
      rfl
    rw [ec]
    have l1 := ld_a hL (bx := [u8l b, u8l (zero 54), u8l (ld b)]) (k := 2) (b := ld b) rfl (ld_len b hb)
    have w3 := st_a hL (bx := [u8l b, u8l (zero 54), u8l (ld b)]) (k := 1) (b := zero 54) (c := ld b) rfl zl (ld_len b hb)
    simp only [List.set_cons_succ, List.set_cons_zero] at w3
    have stq := (And.intro (l1) (w3))
    repeat first
      | ((with_reducible apply ends_bind); case h => first | (simp only [stp, stq]; first | done | rfl) | rfl)
      | ((with_reducible apply ends_t); case h => first | rfl | (simp only [stp, stq]; done))
      | ((with_reducible apply ends_f); case h => first | rfl | (simp only [stp, stq]; done))
    exact ends_some (retq_ctt (ld_a hL (b := ld b) rfl (ld_len b hb)) (frz_agg _ _ _ _))
  · have g0 : decide ((i : Int) < 54) = true := decide_eq_true (by omega)
    have i3 : indexAddrA Try.prog 23 (.bp 0 0) (.v (.int .i64 i)) = some (.bp 0 i) := by
      have := ix_a hB 0 0 .i64 i (by omega)
      rwa [Nat.zero_add] at this
    have i4 : indexAddrA Try.prog 38 (.bp 2 0) (.v (.int .i64 i)) = some (.bp 2 i) := by
      have := ix_a hL 2 0 .i64 i (by omega)
      rwa [Nat.zero_add] at this
    have q3 := ld_b8 (P := Try.prog) (t := 5) (by kernel_rfl) (by kernel_rfl) [u8l b, u8l (zero 54), u8l (b.take i ++ zero (54 - i))] 0 i b rfl (by omega)
    have w3 := st_b8 (P := Try.prog) (t := 5) (by kernel_rfl) [u8l b, u8l (zero 54), u8l (b.take i ++ zero (54 - i))] 2 i (b.take i ++ zero (54 - i)) (b[i]'(by omega)) rfl (by simp [zero, hb]; omega)
    have ec := fill_succ b i 54 (by omega) (by omega)
    rw [ec] at w3
    simp only [List.set_cons_succ, List.set_cons_zero] at w3
    have e3 : IntKind.i64.wrap ((i : Int) + 1) = ((i + 1 : Nat) : Int) := by rw [wrap64]; omega
    have stq := (And.intro (g0) (And.intro (i3) (And.intro (i4) (And.intro (q3) (And.intro (w3) (e3))))))
    repeat first
      | ((with_reducible apply ends_bind); case h => first | (simp only [stp, stq]; first | done | rfl) | rfl)
      | ((with_reducible apply ends_t); case h => first | rfl | (simp only [stp, stq]; done))
      | ((with_reducible apply ends_f); case h => first | rfl | (simp only [stp, stq]; done))
    exact ends_some (.inl ⟨rfl, k', by omega, _, _, _, _, _, _, _, _, _, _, _, rfl, u8l_keep _ _, u8l_keep _ _, i + 1, by first | rfl | exact e3, by omega, u8l_keep _ _⟩)

theorem gotV_err (k : Int) (b : List UInt8) : (∃ p t, gotV k b = .tup [.agg (u8l p), .v (.int .u32 t), .v (.int .i64 0)] ∧ p.length = 54) ∧ mayK k ∧ (kd b : Int) = k ∧ right b = true ∨ (∃ e, gotV k b = .tup [.agg (u8l (zero 54)), .v (.int .u32 0), .v (.int .i64 e)] ∧ e ≠ 0) ∧ ¬ (mayK k ∧ (kd b : Int) = k ∧ right b = true) ∨ b.length ≠ 64 := by
  by_cases hb : b.length = 64
  · by_cases hk : mayK k
    · by_cases h : (kd b : Int) = k ∧ right b = true
      · exact .inl ⟨⟨ld b, tn b, by unfold gotV; rw [if_pos hk, if_pos h], ld_len b hb⟩, hk, h.1, h.2⟩
      · exact .inr (.inl ⟨⟨21, by unfold gotV; rw [if_pos hk, if_neg h], by omega⟩, fun hh => h hh.2⟩)
    · exact .inr (.inl ⟨⟨2, by unfold gotV; rw [if_neg hk], by omega⟩, fun hh => hk hh.1⟩)
  · exact .inr (.inr hb)
theorem rKind_ev {n : Nat} (hn : 440 ≤ n) (b : List UInt8) (hb : b.length = 64) : cf (evFn cx0 ext0 n) 29 [.agg (u8l b)] = some (.v (.int .i64 (kindV b))) := by
  obtain ⟨m, rfl⟩ : ∃ m, n = m + 1 := ⟨n - 1, by omega⟩
  have zl : (zero 54).length = 54 := rfl
  have lB := lds hB
  have sL := sts hL
  have aL := al_a hL
  unfold cf
  rw [E_r07_Kind]
  refine ends_cf (P := Try.prog) ?_
  unfold F_r07_Kind
  have stq := (box_agg)
  repeat first
    | ((with_reducible apply ends_bind); case h => first | (simp only [stp, stq]; first | done | rfl) | rfl)
    | ((with_reducible apply ends_t); case h => first | rfl | (simp only [stp, stq]; done))
    | ((with_reducible apply ends_f); case h => first | rfl | (simp only [stp, stq]; done))
  refine ends_loop (fun k s => ∃ (j : Int) (y0 : AV) (c0 : List AV), s = ⟨[(3, .v (.int .i64 j)), (2, .v (.int .i64 0)), (1, .bp 0 0), (0, y0)], [c0]⟩ ∧ c0 = u8l b ∧ 1 ≤ j ∧ j + k = 7 ∧ ∀ i : Int, 1 ≤ i → i < j → ¬ ((kd b : Int) = i ∧ right b = true)) 6 (by omega) ⟨_, _, _, rfl, rfl, by omega, by omega, fun i h1 h2 => by omega⟩ ?_
  rintro k s ⟨j, y0, c0, rfl, rfl, hj1, hj7, hno⟩
  refine L_r07_Kind_0_lit ?_
  unfold B_r07_Kind_0
  rcases k with _ | k
  · have g0 : decide (j < 7) = false := decide_eq_false (by omega)
    have hkv : kindV b = 0 := by
      unfold kindV
      cases hr : right b
      · rfl
      · exfalso
        have hm : mayK (kd b) := by
          unfold right at hr
          rw [Bool.and_eq_true] at hr
          exact of_decide_eq_true hr.1
        unfold mayK at hm
        exact hno (kd b) hm.1 (by omega) ⟨rfl, hr⟩
    rw [hkv]
    have stq := (g0)
    repeat first
      | ((with_reducible apply ends_bind); case h => first | (simp only [stp, stq]; first | done | rfl) | rfl)
      | ((with_reducible apply ends_t); case h => first | rfl | (simp only [stp, stq]; done))
      | ((with_reducible apply ends_f); case h => first | rfl | (simp only [stp, stq]; done))
    exact ends_some (.inr (.inl ⟨0, rfl, X_r07_Kind_0_0_lit (ends_some ⟨.inl rfl, _, rfl, rfl⟩)⟩))
  · have g0 : decide (j < 7) = true := decide_eq_true (by omega)
    have c1 := rGet_ev (n := m) (by omega) j b hb
    rcases gotV_err j b with ⟨⟨p, t, hg, hp⟩, hm, h1, h2⟩ | ⟨⟨e, hg, he⟩, hn2⟩ | hb'
    · rw [hg] at c1
      have q : ((0 : Int) == 0) = true := rfl
      have stq := (And.intro (g0) (And.intro (lB) (And.intro (hb) (And.intro (frz_agg) (And.intro (c1) (And.intro (aL) (And.intro (sL) (And.intro (zl) (And.intro (hp) (q))))))))))
      repeat first
        | ((with_reducible apply ends_bind); case h => first | (simp only [stp, stq]; first | done | rfl) | rfl)
        | ((with_reducible apply ends_t); case h => first | rfl | (simp only [stp, stq]; done))
        | ((with_reducible apply ends_f); case h => first | rfl | (simp only [stp, stq]; done))
      refine ends_some (.inr (.inr ⟨rfl, .inl rfl, _, rfl, ?_⟩))
      show AV.v (.int .i64 j) = _
      unfold kindV
      rw [h2, if_pos rfl, h1]
    · rw [hg] at c1
      have q : (e == 0) = false := by simpa using he
      have e3 : IntKind.i64.wrap (j + 1) = j + 1 := by rw [wrap64]; omega
      have stq := (And.intro (g0) (And.intro (lB) (And.intro (hb) (And.intro (frz_agg) (And.intro (c1) (And.intro (aL) (And.intro (sL) (And.intro (zl) (And.intro (q) (e3))))))))))
      repeat first
        | ((with_reducible apply ends_bind); case h => first | (simp only [stp, stq]; first | done | rfl) | rfl)
        | ((with_reducible apply ends_t); case h => first | rfl | (simp only [stp, stq]; done))
        | ((with_reducible apply ends_f); case h => first | rfl | (simp only [stp, stq]; done))
      refine ends_some (.inl ⟨rfl, k, by omega, j + 1, _, _, by first | rfl | (rw [← e3]; rfl), u8l_keep _ _, by omega, by omega, fun i h1 h2 => ?_⟩)
      by_cases hi : i = j
      · subst hi
        intro h
        exact hn2 ⟨by unfold mayK; omega, h⟩
      · exact hno i h1 (by omega)
    · exact (hb' hb).elim
/-- what 'Next' answers -/
def nxtT (b : List UInt8) : Nat := if right b then (tn b + 1) % 4294967296 else 1
theorem kindV_cases (b : List UInt8) : (kindV b = 0 ∧ right b = false) ∨ (kindV b = kd b ∧ right b = true ∧ mayK (kd b) ∧ (kd b : Int) ≠ 0) := by
  unfold kindV
  cases hr : right b
  · exact .inl ⟨rfl, rfl⟩
  · have hm : mayK (kd b) := by
      unfold right at hr
      rw [Bool.and_eq_true] at hr
      exact of_decide_eq_true hr.1
    exact .inr ⟨rfl, rfl, hm, by unfold mayK at hm; omega⟩
/-- do two sectors say the same? -/
def sameV (a b : List UInt8) : Bool := if kindV a = kindV b then (if kindV a = 0 then a == b else ld a == ld b) else false
theorem rSame_ev {n : Nat} (hn : 450 ≤ n) (a b : List UInt8) (ha : a.length = 64) (hb : b.length = 64) : cf (evFn cx0 ext0 n) 11 [.agg (u8l a), .agg (u8l b)] = some (.v (.bool (sameV a b))) := by
  obtain ⟨m, rfl⟩ : ∃ m, n = m + 1 := ⟨n - 1, by omega⟩
  have lB := lds hB
  have lL := lds hL
  have sL := sts hL
  have aL := al_a hL
  have zl4 : (zero 54).length = 54 := rfl
  have k1 := rKind_ev (n := m) (by omega) a ha
  have k2 := rKind_ev (n := m) (by omega) b hb
  unfold cf
  rw [E_r07_Same]
  refine ends_cf (P := Try.prog) ?_
  unfold F_r07_Same
  unfold sameV
  by_cases h1 : kindV a = kindV b
  · have g1 : (kindV a != kindV b) = false := by simpa using h1
    rw [if_pos h1]
    by_cases h2 : kindV a = 0
    · have g2 : (kindV a == 0) = true := by simpa using h2
      rw [if_pos h2]
      have e1 := eq_a hB (a := a) (b := b) ha hb
      have stq := (And.intro (box_agg) (And.intro (lB) (And.intro (ha) (And.intro (hb) (And.intro (frz_agg) (And.intro (k1) (And.intro (k2) (And.intro (g1) (And.intro (g2) (e1))))))))))
      repeat first
        | ((with_reducible apply ends_bind); case h => first | (simp only [stp, stq]; first | done | rfl) | rfl)
        | ((with_reducible apply ends_t); case h => first | rfl | (simp only [stp, stq]; done))
        | ((with_reducible apply ends_f); case h => first | rfl | (simp only [stp, stq]; done))
      exact ends_some ⟨.inl rfl, _, rfl, rfl⟩
    · have g2 : (kindV a == 0) = false := by simpa using h2
      rw [if_neg h2]
      have c1 := rGet_ev (n := m) (by omega) (kindV a) a ha
      have c2 := rGet_ev (n := m) (by omega) (kindV a) b hb
      have g : gotV (kindV a) a = .tup [.agg (u8l (ld a)), .v (.int .u32 (tn a)), .v (.int .i64 0)] := by
        rcases kindV_cases a with ⟨h, _⟩ | ⟨h, h3, h4, _⟩
        · exact (h2 h).elim
        · rw [h]; unfold gotV; rw [if_pos h4, if_pos ⟨rfl, h3⟩]
      have g' : gotV (kindV a) b = .tup [.agg (u8l (ld b)), .v (.int .u32 (tn b)), .v (.int .i64 0)] := by
        rcases kindV_cases b with ⟨h, _⟩ | ⟨h, h3, h4, _⟩
        · exact (h2 (h1.trans h)).elim
        · rw [h1, h]; unfold gotV; rw [if_pos h4, if_pos ⟨rfl, h3⟩]
      rw [g] at c1
      rw [g'] at c2
      have l1 := ld_len a ha
      have l2 := ld_len b hb
      have e1 := eq_a hL (a := ld a) (b := ld b) l1 l2
      have stq := (And.intro (box_agg) (And.intro (lB) (And.intro (lL) (And.intro (sL) (And.intro (aL) (And.intro (zl4) (And.intro (l1) (And.intro (l2) (And.intro (ha) (And.intro (hb) (And.intro (frz_agg) (And.intro (k1) (And.intro (k2) (And.intro (g1) (And.intro (g2) (And.intro (c1) (And.intro (c2) (e1))))))))))))))))))
      repeat first
        | ((with_reducible apply ends_bind); case h => first | (simp only [stp, stq]; first | done | rfl) | rfl)
        | ((with_reducible apply ends_t); case h => first | rfl | (simp only [stp, stq]; done))
        | ((with_reducible apply ends_f); case h => first | rfl | (simp only [stp, stq]; done))
      exact ends_some ⟨.inl rfl, _, rfl, rfl⟩
  · have g1 : (kindV a != kindV b) = true := by simpa using h1
    rw [if_neg h1]
    have stq := (And.intro (box_agg) (And.intro (lB) (And.intro (ha) (And.intro (hb) (And.intro (frz_agg) (And.intro (k1) (And.intro (k2) (g1))))))))
    repeat first
      | ((with_reducible apply ends_bind); case h => first | (simp only [stp, stq]; first | done | rfl) | rfl)
      | ((with_reducible apply ends_t); case h => first | rfl | (simp only [stp, stq]; done))
      | ((with_reducible apply ends_f); case h => first | rfl | (simp only [stp, stq]; done))
    exact ends_some ⟨.inl rfl, _, rfl, rfl⟩
end Go.Sy
