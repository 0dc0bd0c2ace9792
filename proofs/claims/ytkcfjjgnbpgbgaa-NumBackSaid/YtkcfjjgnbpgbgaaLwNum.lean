/-
  Layer 01's laws as the reader reads them.
-/
import Derived.Test.YtkcfjjgnbpgbgaaPfNum
namespace Go.Sy
open Go.Proofs Num

theorem works_at (n : Nat) (h : 60 ≤ n) : cf (evFn cx0 ext0 n) 19 [] = some (.v (.bool true)) := by
  obtain ⟨m, rfl⟩ : ∃ m, n = m + 60 := ⟨n - 60, by omega⟩
  kernel_rfl
theorem beq_b (p q : Bool) : binA Try.prog .eql 4 (.v (.bool p)) (.v (.bool q)) = some (.v (.bool (p == q))) := by
  cases p <;> cases q <;> kernel_rfl
theorem al16 (bx : Bx) : allocA Try.prog bx 37 = some (.bp bx.length 0, bx ++ [[u8 0, u8 0]]) := by kernel_rfl
theorem al32 (bx : Bx) : allocA Try.prog bx 39 = some (.bp bx.length 0, bx ++ [[u8 0, u8 0, u8 0, u8 0]]) := by kernel_rfl
theorem st16 (x y a b : UInt8) (Y : List AV) : stA Try.prog 37 [[u8 x, u8 y], Y] (.bp 0 0) (.agg [u8 a, u8 b]) = some (.v undef, [[u8 a, u8 b], Y]) := by kernel_rfl
theorem st32 (x y z w a b c d : UInt8) (Y : List AV) : stA Try.prog 39 [Y, [u8 x, u8 y, u8 z, u8 w]] (.bp 1 0) (.agg [u8 a, u8 b, u8 c, u8 d]) = some (.v undef, [Y, [u8 a, u8 b, u8 c, u8 d]]) := by kernel_rfl
theorem sl16 (a b : UInt8) (Y : List AV) : sliceA Try.prog [[u8 a, u8 b], Y] 37 (.bp 0 0) none none none = some (.bsl 0 0 2 1) := by kernel_rfl
theorem sl32 (a b c d : UInt8) (Y : List AV) : sliceA Try.prog [Y, [u8 a, u8 b, u8 c, u8 d]] 39 (.bp 1 0) none none none = some (.bsl 1 0 4 1) := by kernel_rfl
theorem fz16 (a b : UInt8) (Y : List AV) : frz [[u8 a, u8 b], Y] true 6 (.bsl 0 0 2 1) = byt true [a, b] := rfl
theorem fz32 (a b c d : UInt8) (Y : List AV) : frz [Y, [u8 a, u8 b, u8 c, u8 d]] true 6 (.bsl 1 0 4 1) = byt true [a, b, c, d] := rfl
theorem beq_l (l : List UInt8) : (l == l) = true := by simp
theorem cut_ok (b : List UInt8) : ∀ bx, sliceA Try.prog bx 22 (byt true b) none (some (.v (.int .i64 (min (b.length : Int) 300)))) none = some (byt true (b.take 300)) := fun bx => slc_min t8 bx b true .i64 300

theorem puts_ev (x y : Nat) (hx : x < 65536) (hy : y < 4294967296) : cf (evFn cx0 ext0 1000) 6 [.v (.int .u16 x), .v (.int .u32 y)] = some (.v (.bool true)) := by
  have hw := works_at 999 (by omega)
  have c1 : cf (evFn cx0 ext0 999) 20 _ = _ := put16_ev 998 x
  have c2 : cf (evFn cx0 ext0 999) 21 _ = _ := put32_ev 989 y
  have c3 : cf (evFn cx0 ext0 999) 22 _ = some (byt false [UInt8.ofNat x, UInt8.ofNat (x / 256)]) := rput16_ev 998 x hx
  have c4 : cf (evFn cx0 ext0 999) 23 _ = some (byt false [UInt8.ofNat y, UInt8.ofNat (y / 256), UInt8.ofNat (y / 65536), UInt8.ofNat (y / 16777216)]) := rput32_ev 998 y hy
  have s1 : ∀ a b f g, cf (evFn cx0 ext0 999) 14 [byt f a, byt g b] = _ := fun a b f g => same_ev 998 a b f g
  unfold cf
  rw [E_l01_NumPuts]
  refine ends_cf (P := Try.prog) ?_
  unfold F_l01_NumPuts
  have stq := (And.intro (hw) (And.intro (c1) (And.intro (c2) (And.intro (c3) (And.intro (c4) (And.intro (s1) (And.intro (al16) (And.intro (al32) (And.intro (st16) (And.intro (st32) (And.intro (sl16) (And.intro (sl32) (And.intro (fz16) (And.intro (fz32) (beq_l)))))))))))))))
  repeat first
    | ((with_reducible apply ends_bind); case h => first | (simp only [stp, stq]; first | done | rfl) | rfl)
    | ((with_reducible apply ends_t); case h => first | rfl | (simp only [stp, stq]; done))
    | ((with_reducible apply ends_f); case h => first | rfl | (simp only [stp, stq]; done))
  exact ends_some ⟨.inl rfl, _, rfl, rfl⟩

theorem back_ev (y : Nat) (hy : y < 4294967296) : cf (evFn cx0 ext0 1000) 8 [.v (.int .u32 y)] = some (.v (.bool true)) := by
  have hw := works_at 999 (by omega)
  have cv : ∀ bx, convA Try.prog bx 36 35 (.v (.int .u32 y)) = some (.v (.int .u16 (y % 65536 : Nat)), bx) := by
    intro bx
    have h : convA Try.prog bx 36 35 (.v (.int .u32 y)) = some (.v (.int .u16 (IntKind.u16.wrap y)), bx) := by kernel_rfl
    rw [h, wrap16]
    rfl
  have c1 : cf (evFn cx0 ext0 999) 20 _ = _ := put16_ev 998 (y % 65536)
  have c2 : cf (evFn cx0 ext0 999) 21 _ = _ := put32_ev 989 y
  have c3 : cf (evFn cx0 ext0 999) 24 [byt true (p16 (y % 65536)), .v (.int .i64 0)] = some (.tup [.v (.int .u16 (y % 65536 : Nat)), .v (.int .i64 0)]) := by
    rw [Get16_ev (by omega) _ _ _ (by omega) (by simp [p16])]
    unfold getV
    rw [if_neg (by simp [p16])]
    show some (AV.tup [.v (.int .u16 (le (p16 (y % 65536)) : Nat)), _]) = _
    rw [le_p16 _ (by omega)]
  have c4 : cf (evFn cx0 ext0 999) 26 [byt true (p32 y), .v (.int .i64 0)] = some (.tup [.v (.int .u32 (y : Nat)), .v (.int .i64 0)]) := by
    rw [Get32_ev (by omega) _ _ _ (by omega) (by simp [p32])]
    unfold getV
    rw [if_neg (by simp [p32])]
    show some (AV.tup [.v (.int .u32 (le (p32 y) : Nat)), _]) = _
    rw [le_p32 _ (by omega)]
  unfold p16 at c3
  unfold p32 at c4
  unfold cf
  rw [E_l01_NumBack]
  refine ends_cf (P := Try.prog) ?_
  unfold F_l01_NumBack
  have stq := (And.intro (hw) (And.intro (cv) (And.intro (c1) (And.intro (c2) (And.intro (c3) (And.intro (c4) (And.intro (al16) (And.intro (al32) (And.intro (st16) (And.intro (st32) (And.intro (sl16) (And.intro (sl32) (And.intro (fz16) (fz32))))))))))))))
  repeat first
    | ((with_reducible apply ends_bind); case h => first | (simp only [stp, stq]; first | done | rfl) | rfl)
    | ((with_reducible apply ends_t); case h => first | rfl | (simp only [stp, stq]; done))
    | ((with_reducible apply ends_f); case h => first | rfl | (simp only [stp, stq]; done))
  exact ends_some ⟨.inl rfl, _, rfl, rfl⟩

theorem gets_ev (b : List UInt8) (a : Int) (ha : a < 2 ^ 63) (y : Nat) (hy : y < 4294967296) : cf (evFn cx0 ext0 1000) 7 [byt true b, .v (.int .i64 a), .v (.int .u32 y)] = some (.v (.bool true)) := by
  have hw := works_at 999 (by omega)
  have s1 := cut_ok b
  have n1 := len_b true b
  have lb : (b.take 300).length ≤ 300 := by simp; omega
  generalize b.take 300 = b' at *
  have b1 : cf (evFn cx0 ext0 999) 10 [byt true b'] = _ := bytes_ev 998 true b' (by omega)
  have cv : ∀ bx, convA Try.prog bx 36 35 (.v (.int .u32 y)) = some (.v (.int .u16 (y % 65536 : Nat)), bx) := by
    intro bx
    have h : convA Try.prog bx 36 35 (.v (.int .u32 y)) = some (.v (.int .u16 (IntKind.u16.wrap y)), bx) := by kernel_rfl
    rw [h, wrap16]
    rfl
  have c1 : cf (evFn cx0 ext0 999) 20 _ = _ := put16_ev 998 (y % 65536)
  have c2 : cf (evFn cx0 ext0 999) 21 _ = _ := put32_ev 989 y
  have c3 : cf (evFn cx0 ext0 999) 22 [.v (.int .u16 (y % 65536 : Nat))] = some (byt false [UInt8.ofNat (y % 65536), UInt8.ofNat ((y % 65536) / 256)]) := rput16_ev 998 (y % 65536) (by omega)
  have c4 : cf (evFn cx0 ext0 999) 23 _ = some (byt false [UInt8.ofNat y, UInt8.ofNat (y / 256), UInt8.ofNat (y / 65536), UInt8.ofNat (y / 16777216)]) := rput32_ev 998 y hy
  have s2 : ∀ a b f g, cf (evFn cx0 ext0 999) 14 [byt f a, byt g b] = _ := fun a b f g => same_ev 998 a b f g
  have g1 := Get16_ev (m := 999) (by omega) b' false a ha (by omega)
  have g2 := rGet16_ev (m := 999) (by omega) b' true a ha (by omega)
  have g3 := Get32_ev (m := 999) (by omega) b' false a ha (by omega)
  have g4 := rGet32_ev (m := 999) (by omega) b' true a ha (by omega)
  have v16 : ∃ p e, getV .u16 b' a 2 = .tup [.v (.int .u16 p), .v (.int .i64 e)] := by unfold getV; split <;> exact ⟨_, _, rfl⟩
  have v32 : ∃ p e, getV .u32 b' a 4 = .tup [.v (.int .u32 p), .v (.int .i64 e)] := by unfold getV; split <;> exact ⟨_, _, rfl⟩
  obtain ⟨p, e, hp⟩ := v16
  obtain ⟨q, e', hq⟩ := v32
  rw [hp] at g1 g2
  rw [hq] at g3 g4
  unfold cf
  rw [E_l01_NumGets]
  refine ends_cf (P := Try.prog) ?_
  unfold F_l01_NumGets
  have stq := (And.intro (hw) (And.intro (s1) (And.intro (n1) (And.intro (b1) (And.intro (g1) (And.intro (g2) (And.intro (g3) (And.intro (g4) (And.intro (cv) (And.intro (c1) (And.intro (c2) (And.intro (c3) (And.intro (c4) (And.intro (s2) (And.intro (al16) (And.intro (al32) (And.intro (st16) (And.intro (st32) (And.intro (sl16) (And.intro (sl32) (And.intro (fz16) (And.intro (fz32) (beq_l)))))))))))))))))))))))
  repeat first
    | ((with_reducible apply ends_bind); case h => first | (simp only [stp, stq]; first | done | rfl) | rfl)
    | ((with_reducible apply ends_t); case h => first | rfl | (simp only [stp, stq]; done))
    | ((with_reducible apply ends_f); case h => first | rfl | (simp only [stp, stq]; done))
  exact ends_some ⟨.inl rfl, _, rfl, rfl⟩

theorem bits_ev (b : List UInt8) (i n : Int) (hi : i < 2 ^ 63) (on : Bool) : cf (evFn cx0 ext0 10000) 3 [byt true b, .v (.int .i64 i), .v (.int .i64 n), .v (.bool on)] = some (.v (.bool true)) := by
  have hw := works_at 9999 (by omega)
  have s1 := cut_ok b
  have n1 := len_b true b
  have lb : (b.take 300).length ≤ 300 := by simp; omega
  generalize b.take 300 = b' at *
  have b1 : cf (evFn cx0 ext0 9999) 10 [byt true b'] = _ := bytes_ev 9998 true b' (by omega)
  have g1 : cf (evFn cx0 ext0 9999) 9 [byt false b', .v (.int .i64 i)] = _ := Bit_ev 9997 b' false i hi (by omega)
  have g2 := rBit_ev 9999 (by omega) b' true i hi (by omega)
  have g3 := With_ev (n := 9999) (by omega) b' false i on hi (by omega)
  have g4 := rWith_ev (n := 9999) (by omega) b' true i on hi (by omega)
  have g5 := Count_ev (n := 9999) b' false n (by omega) (by omega)
  have g6 := rCount_ev (n := 9999) b' true n (by omega) (by omega)
  have g7 := First_ev (n := 9999) b' false i n hi (by omega) (by omega)
  have g8 := rFirst_ev (n := 9999) b' true i n hi (by omega) (by omega)
  have s2 : ∀ a b f g, cf (evFn cx0 ext0 9999) 14 [byt f a, byt g b] = _ := fun a b f g => same_ev 9998 a b f g
  have v1 : ∃ p e, bitV b' i = .tup [.v (.bool p), .v (.int .i64 e)] := by unfold bitV; split <;> exact ⟨_, _, rfl⟩
  have v2 : ∃ p e, withV b' i on = .tup [byt false p, .v (.int .i64 e)] := by unfold withV; split <;> exact ⟨_, _, rfl⟩
  obtain ⟨p, e, hp⟩ := v1
  obtain ⟨q, e', hq⟩ := v2
  rw [hp] at g1 g2
  rw [hq] at g3 g4
  have bb : (p == p) = true := by simp
  unfold cf
  rw [E_l01_NumBits]
  refine ends_cf (P := Try.prog) ?_
  unfold F_l01_NumBits
  have stq := (And.intro (hw) (And.intro (s1) (And.intro (n1) (And.intro (b1) (And.intro (g1) (And.intro (g2) (And.intro (g3) (And.intro (g4) (And.intro (g5) (And.intro (g6) (And.intro (g7) (And.intro (g8) (And.intro (s2) (And.intro (beq_l) (And.intro (beq_b) (bb))))))))))))))))
  repeat first
    | ((with_reducible apply ends_bind); case h => first | (simp only [stp, stq]; first | done | rfl) | rfl)
    | ((with_reducible apply ends_t); case h => first | rfl | (simp only [stp, stq]; done))
    | ((with_reducible apply ends_f); case h => first | rfl | (simp only [stp, stq]; done))
  exact ends_some ⟨.inl rfl, _, rfl, rfl⟩

theorem one_ev (b : List UInt8) (i j : Int) (hi : i < 2 ^ 63) (hj : j < 2 ^ 63) (on : Bool) : cf (evFn cx0 ext0 10000) 4 [byt true b, .v (.int .i64 i), .v (.int .i64 j), .v (.bool on)] = some (.v (.bool true)) := by
  have hw := works_at 9999 (by omega)
  have s1 := cut_ok b
  have n1 := len_b true b
  have lb : (b.take 300).length ≤ 300 := by simp; omega
  generalize b.take 300 = b' at *
  have b1 : cf (evFn cx0 ext0 9999) 10 [byt true b'] = _ := bytes_ev 9998 true b' (by omega)
  have g3 := With_ev (n := 9999) (by omega) b' false i on hi (by omega)
  have nt : (!true) = false := rfl
  unfold cf
  rw [E_l01_NumOne]
  refine ends_cf (P := Try.prog) ?_
  unfold F_l01_NumOne
  by_cases h : i < 0 ∨ 8 * b'.length ≤ i
  · rw [show withV b' i on = _ from if_pos h] at g3
    have q1 : ((2 : Int) != 0) = true := rfl
    have n2 := len_b false []
    have q2 : ((([] : List UInt8).length : Int) == 0) = true := rfl
    have stq := (And.intro (hw) (And.intro (s1) (And.intro (n1) (And.intro (b1) (And.intro (g3) (And.intro (q1) (And.intro (n2) (And.intro (q2) (nt)))))))))
    repeat first
      | ((with_reducible apply ends_bind); case h => first | (simp only [stp, stq]; first | done | rfl) | rfl)
      | ((with_reducible apply ends_t); case h => first | rfl | (simp only [stp, stq]; done))
      | ((with_reducible apply ends_f); case h => first | rfl | (simp only [stp, stq]; done))
    exact ends_some ⟨.inl rfl, _, rfl, rfl⟩
  · obtain ⟨i, rfl⟩ : ∃ k : Nat, i = k := ⟨i.toNat, by omega⟩
    rw [show withV b' i on = _ from if_neg h] at g3
    simp only [Int.toNat_natCast] at g3
    have hi8 : i < 8 * b'.length := by omega
    have hl := withB_len b' i on
    have hbw := bit_with b' i i on hi8
    rw [if_pos rfl] at hbw
    have hcw := cnt_with b' i on hi8 (8 * b'.length) 0
    rw [if_pos (by omega)] at hcw
    have t1 : cf (evFn cx0 ext0 9999) 9 [byt true b', .v (.int .i64 i)] = _ := Bit_ev 9997 b' true i hi (by omega)
    have t2 : cf (evFn cx0 ext0 9999) 9 [byt false (withB b' i on), .v (.int .i64 i)] = _ := Bit_ev 9997 (withB b' i on) false i hi (by omega)
    have t3 : cf (evFn cx0 ext0 9999) 9 [byt true b', .v (.int .i64 j)] = _ := Bit_ev 9997 b' true j hj (by omega)
    have t4 : cf (evFn cx0 ext0 9999) 9 [byt false (withB b' i on), .v (.int .i64 j)] = _ := Bit_ev 9997 (withB b' i on) false j hj (by omega)
    rw [bitV_ok b' i hi8] at t1
    rw [bitV_ok (withB b' i on) i (by omega), hbw] at t2
    have e8 : IntKind.i64.wrap (8 * (b'.length : Int)) = 8 * b'.length := by rw [wrap64]; omega
    have hlim : ∀ c : List UInt8, c.length = b'.length → lim c (8 * (b'.length : Int)) = 8 * b'.length := by intro c hc; unfold lim; omega
    have c1 := Count_ev (n := 9999) b' true (8 * (b'.length : Int)) (by omega) (by omega)
    have c2 := Count_ev (n := 9999) (withB b' i on) false (8 * (b'.length : Int)) (by omega) (by omega)
    rw [hlim b' rfl] at c1
    rw [hlim _ hl] at c2
    have n2 := len_b false (withB b' i on)
    have n3 := len_b true b'
    rw [hl] at n2
    have hx : ∃ x y e, bitV b' j = .tup [.v (.bool x), .v (.int .i64 e)] ∧ bitV (withB b' i on) j = .tup [.v (.bool y), .v (.int .i64 e)] ∧ ((i : Int) ≠ j → x = y) := by
      unfold bitV
      rw [hl]
      split
      · exact ⟨_, _, _, rfl, rfl, fun _ => rfl⟩
      · refine ⟨_, _, _, rfl, rfl, fun hij => ?_⟩
        rw [bit_with b' i j.toNat on hi8, if_neg (by omega)]
    obtain ⟨x, y, e, hx1, hx2, hxy⟩ := hx
    rw [hx1] at t3
    rw [hx2] at t4
    have cc1 := cnt_le b' (8 * b'.length) 0
    have cc2 := cnt_le (withB b' i on) (8 * b'.length) 0
    have hd : IntKind.i64.wrap ((cnt (withB b' i on) 0 (8 * b'.length) : Int) - cnt b' 0 (8 * b'.length)) = (if on then 1 else 0) - (if bitAt b' i then 1 else 0) := by rw [hcw, wrap64]; split <;> split <;> omega
    have oo : (on == on) = true := by simp
    have xx : (x == x) = true := by simp
    have bt : ∀ q r : Bool, binA Try.prog .eql 4 (.v (.bool q)) (.v (.bool r)) = some (.v (.bool (q == r))) := beq_b
    by_cases hij : (i : Int) = j
    · have q1 : ((i : Int) == j) = true := by simpa using hij
      cases hb : bitAt b' i <;> rw [hb] at t1 hd <;> cases on
      · skip
        have nf : (!false) = true := rfl
        have hd' : IntKind.i64.wrap ((cnt (withB b' i false) 0 (8 * b'.length) : Int) - cnt b' 0 (8 * b'.length)) = 0 := hd
        have stq := (And.intro (hw) (And.intro (s1) (And.intro (n1) (And.intro (b1) (And.intro (g3) (And.intro (nt) (And.intro (nf) (And.intro (t1) (And.intro (t2) (And.intro (t3) (And.intro (t4) (And.intro (q1) (And.intro (n2) (And.intro (n3) (And.intro (e8) (And.intro (c1) (And.intro (c2) (And.intro (hd') (And.intro (oo) (bt))))))))))))))))))))
        repeat first
          | ((with_reducible apply ends_bind); case h => first | (simp only [stp, stq]; first | done | rfl) | rfl)
          | ((with_reducible apply ends_t); case h => first | rfl | (simp only [stp, stq]; done))
          | ((with_reducible apply ends_f); case h => first | rfl | (simp only [stp, stq]; done))
        exact ends_some ⟨.inl rfl, _, rfl, rfl⟩
      · skip
        have nf : (!false) = true := rfl
        have hd' : IntKind.i64.wrap ((cnt (withB b' i true) 0 (8 * b'.length) : Int) - cnt b' 0 (8 * b'.length)) = 1 := hd
        have stq := (And.intro (hw) (And.intro (s1) (And.intro (n1) (And.intro (b1) (And.intro (g3) (And.intro (nt) (And.intro (nf) (And.intro (t1) (And.intro (t2) (And.intro (t3) (And.intro (t4) (And.intro (q1) (And.intro (n2) (And.intro (n3) (And.intro (e8) (And.intro (c1) (And.intro (c2) (And.intro (hd') (And.intro (oo) (bt))))))))))))))))))))
        repeat first
          | ((with_reducible apply ends_bind); case h => first | (simp only [stp, stq]; first | done | rfl) | rfl)
          | ((with_reducible apply ends_t); case h => first | rfl | (simp only [stp, stq]; done))
          | ((with_reducible apply ends_f); case h => first | rfl | (simp only [stp, stq]; done))
        exact ends_some ⟨.inl rfl, _, rfl, rfl⟩
      · skip
        have nf : (!false) = true := rfl
        have hd' : IntKind.i64.wrap ((cnt (withB b' i false) 0 (8 * b'.length) : Int) - cnt b' 0 (8 * b'.length)) = -1 := hd
        have stq := (And.intro (hw) (And.intro (s1) (And.intro (n1) (And.intro (b1) (And.intro (g3) (And.intro (nt) (And.intro (nf) (And.intro (t1) (And.intro (t2) (And.intro (t3) (And.intro (t4) (And.intro (q1) (And.intro (n2) (And.intro (n3) (And.intro (e8) (And.intro (c1) (And.intro (c2) (And.intro (hd') (And.intro (oo) (bt))))))))))))))))))))
        repeat first
          | ((with_reducible apply ends_bind); case h => first | (simp only [stp, stq]; first | done | rfl) | rfl)
          | ((with_reducible apply ends_t); case h => first | rfl | (simp only [stp, stq]; done))
          | ((with_reducible apply ends_f); case h => first | rfl | (simp only [stp, stq]; done))
        exact ends_some ⟨.inl rfl, _, rfl, rfl⟩
      · skip
        have nf : (!false) = true := rfl
        have hd' : IntKind.i64.wrap ((cnt (withB b' i true) 0 (8 * b'.length) : Int) - cnt b' 0 (8 * b'.length)) = 0 := hd
        have stq := (And.intro (hw) (And.intro (s1) (And.intro (n1) (And.intro (b1) (And.intro (g3) (And.intro (nt) (And.intro (nf) (And.intro (t1) (And.intro (t2) (And.intro (t3) (And.intro (t4) (And.intro (q1) (And.intro (n2) (And.intro (n3) (And.intro (e8) (And.intro (c1) (And.intro (c2) (And.intro (hd') (And.intro (oo) (bt))))))))))))))))))))
        repeat first
          | ((with_reducible apply ends_bind); case h => first | (simp only [stp, stq]; first | done | rfl) | rfl)
          | ((with_reducible apply ends_t); case h => first | rfl | (simp only [stp, stq]; done))
          | ((with_reducible apply ends_f); case h => first | rfl | (simp only [stp, stq]; done))
        exact ends_some ⟨.inl rfl, _, rfl, rfl⟩
    · have q1 : ((i : Int) == j) = false := by simpa using hij
      obtain rfl := hxy hij
      cases hb : bitAt b' i <;> rw [hb] at t1 hd <;> cases on
      · skip
        have nf : (!false) = true := rfl
        have hd' : IntKind.i64.wrap ((cnt (withB b' i false) 0 (8 * b'.length) : Int) - cnt b' 0 (8 * b'.length)) = 0 := hd
        have stq := (And.intro (hw) (And.intro (s1) (And.intro (n1) (And.intro (b1) (And.intro (g3) (And.intro (nt) (And.intro (nf) (And.intro (t1) (And.intro (t2) (And.intro (t3) (And.intro (t4) (And.intro (q1) (And.intro (n2) (And.intro (n3) (And.intro (e8) (And.intro (c1) (And.intro (c2) (And.intro (hd') (And.intro (oo) (And.intro (xx) (bt)))))))))))))))))))))
        repeat first
          | ((with_reducible apply ends_bind); case h => first | (simp only [stp, stq]; first | done | rfl) | rfl)
          | ((with_reducible apply ends_t); case h => first | rfl | (simp only [stp, stq]; done))
          | ((with_reducible apply ends_f); case h => first | rfl | (simp only [stp, stq]; done))
        exact ends_some ⟨.inl rfl, _, rfl, rfl⟩
      · skip
        have nf : (!false) = true := rfl
        have hd' : IntKind.i64.wrap ((cnt (withB b' i true) 0 (8 * b'.length) : Int) - cnt b' 0 (8 * b'.length)) = 1 := hd
        have stq := (And.intro (hw) (And.intro (s1) (And.intro (n1) (And.intro (b1) (And.intro (g3) (And.intro (nt) (And.intro (nf) (And.intro (t1) (And.intro (t2) (And.intro (t3) (And.intro (t4) (And.intro (q1) (And.intro (n2) (And.intro (n3) (And.intro (e8) (And.intro (c1) (And.intro (c2) (And.intro (hd') (And.intro (oo) (And.intro (xx) (bt)))))))))))))))))))))
        repeat first
          | ((with_reducible apply ends_bind); case h => first | (simp only [stp, stq]; first | done | rfl) | rfl)
          | ((with_reducible apply ends_t); case h => first | rfl | (simp only [stp, stq]; done))
          | ((with_reducible apply ends_f); case h => first | rfl | (simp only [stp, stq]; done))
        exact ends_some ⟨.inl rfl, _, rfl, rfl⟩
      · skip
        have nf : (!false) = true := rfl
        have hd' : IntKind.i64.wrap ((cnt (withB b' i false) 0 (8 * b'.length) : Int) - cnt b' 0 (8 * b'.length)) = -1 := hd
        have stq := (And.intro (hw) (And.intro (s1) (And.intro (n1) (And.intro (b1) (And.intro (g3) (And.intro (nt) (And.intro (nf) (And.intro (t1) (And.intro (t2) (And.intro (t3) (And.intro (t4) (And.intro (q1) (And.intro (n2) (And.intro (n3) (And.intro (e8) (And.intro (c1) (And.intro (c2) (And.intro (hd') (And.intro (oo) (And.intro (xx) (bt)))))))))))))))))))))
        repeat first
          | ((with_reducible apply ends_bind); case h => first | (simp only [stp, stq]; first | done | rfl) | rfl)
          | ((with_reducible apply ends_t); case h => first | rfl | (simp only [stp, stq]; done))
          | ((with_reducible apply ends_f); case h => first | rfl | (simp only [stp, stq]; done))
        exact ends_some ⟨.inl rfl, _, rfl, rfl⟩
      · skip
        have nf : (!false) = true := rfl
        have hd' : IntKind.i64.wrap ((cnt (withB b' i true) 0 (8 * b'.length) : Int) - cnt b' 0 (8 * b'.length)) = 0 := hd
        have stq := (And.intro (hw) (And.intro (s1) (And.intro (n1) (And.intro (b1) (And.intro (g3) (And.intro (nt) (And.intro (nf) (And.intro (t1) (And.intro (t2) (And.intro (t3) (And.intro (t4) (And.intro (q1) (And.intro (n2) (And.intro (n3) (And.intro (e8) (And.intro (c1) (And.intro (c2) (And.intro (hd') (And.intro (oo) (And.intro (xx) (bt)))))))))))))))))))))
        repeat first
          | ((with_reducible apply ends_bind); case h => first | (simp only [stp, stq]; first | done | rfl) | rfl)
          | ((with_reducible apply ends_t); case h => first | rfl | (simp only [stp, stq]; done))
          | ((with_reducible apply ends_f); case h => first | rfl | (simp only [stp, stq]; done))
        exact ends_some ⟨.inl rfl, _, rfl, rfl⟩

theorem counts_ev (b : List UInt8) (a z : Int) (ha : a < 2 ^ 63) : cf (evFn cx0 ext0 10000) 5 [byt true b, .v (.int .i64 a), .v (.int .i64 z)] = some (.v (.bool true)) := by
  have hw := works_at 9999 (by omega)
  have s1 := cut_ok b
  have n1 := len_b true b
  have lb : (b.take 300).length ≤ 300 := by simp; omega
  generalize b.take 300 = b' at *
  have b1 : cf (evFn cx0 ext0 9999) 10 [byt true b'] = _ := bytes_ev 9998 true b' (by omega)
  have g5 := Count_ev (n := 9999) b' false z (by omega) (by omega)
  have g6 := rCount_ev (n := 9999) b' true z (by omega) (by omega)
  have g7 := First_ev (n := 9999) b' false a z ha (by omega) (by omega)
  have g8 := rFirst_ev (n := 9999) b' true a z ha (by omega) (by omega)
  have hl := lim_le b' z
  have hm : max a 0 = (frm a : Int) := by unfold frm; omega
  have hf := fst0_spec b' (lim b' z - frm a) (frm a)
  rw [show fst0 b' (frm a) (lim b' z - frm a) = fstV b' a z from rfl] at hf
  generalize fstV b' a z = v at *
  have hf63 : frm a < 2 ^ 63 := by unfold frm; omega
  generalize frm a = q at *
  have nt : (!true) = false := rfl
  have nf : (!false) = true := rfl
  unfold cf
  rw [E_l01_NumCounts]
  refine ends_cf (P := Try.prog) ?_
  unfold F_l01_NumCounts
  have stq := (And.intro (s1) (And.intro (n1) (And.intro (b1) (And.intro (g5) (And.intro (g6) (And.intro (g7) (And.intro (g8) (hm))))))))
  repeat first
    | ((with_reducible apply ends_bind); case h => first | (simp only [stp, stq]; first | done | rfl) | rfl)
    | ((with_reducible apply ends_t); case h => first | rfl | (simp only [stp, stq]; done))
    | ((with_reducible apply ends_f); case h => first | rfl | (simp only [stp, stq]; done))
  -- behind the loop
  have ex : ∀ y8 y38 y43 zz, Ends (X_l01_NumCounts_0_0 (evFn cx0 ext0 9999) 9999 0 y43 y8 y38 (.v (.int .i64 v)) (byt true b') (.v (.bool false)) zz (.v (.int .i64 a)) (.v (.int .i64 z)) []) (RetQ Try.prog [.tmp 6] (.v (.bool true))) := by
    intro y8 y38 y43 zz
    unfold X_l01_NumCounts_0_0
    rcases hf with rfl | ⟨j, rfl, hj1, hj2, hj3, hj4⟩
    · have t1 : cf (evFn cx0 ext0 9999) 9 [byt true b', .v (.int .i64 0)] = _ := Bit_ev 9997 b' true 0 (by omega) (by omega)
      have v1 : ∃ p e, bitV b' 0 = .tup [.v (.bool p), .v (.int .i64 e)] := by unfold bitV; split <;> exact ⟨_, _, rfl⟩
      obtain ⟨p, e, hp⟩ := v1
      rw [hp] at t1
      have m0 : max (-1 : Int) 0 = 0 := rfl
      have d1 : decide ((-1 : Int) < 0) = true := rfl
      have stq := (And.intro (m0) (And.intro (t1) (And.intro (d1) (hw))))
      repeat first
        | ((with_reducible apply ends_bind); case h => first | (simp only [stp, stq]; first | done | rfl) | rfl)
        | ((with_reducible apply ends_t); case h => first | rfl | (simp only [stp, stq]; done))
        | ((with_reducible apply ends_f); case h => first | rfl | (simp only [stp, stq]; done))
      exact ends_some ⟨.inl rfl, _, rfl, rfl⟩
    · have t1 : cf (evFn cx0 ext0 9999) 9 [byt true b', .v (.int .i64 j)] = _ := Bit_ev 9997 b' true j (by omega) (by omega)
      rw [bitV_ok b' j (by omega), hj3] at t1
      have m0 : max (j : Int) 0 = j := by omega
      have d1 : decide ((j : Int) < 0) = false := decide_eq_false (by omega)
      have stq := (And.intro (m0) (And.intro (t1) (And.intro (d1) (And.intro (hw) (nf)))))
      repeat first
        | ((with_reducible apply ends_bind); case h => first | (simp only [stp, stq]; first | done | rfl) | rfl)
        | ((with_reducible apply ends_t); case h => first | rfl | (simp only [stp, stq]; done))
        | ((with_reducible apply ends_f); case h => first | rfl | (simp only [stp, stq]; done))
      exact ends_some ⟨.inl rfl, _, rfl, rfl⟩
  refine ends_loop (fun k s => ∃ (x : Int) (y zz : AV), s = ⟨[(8, .v (.int .i64 x)), (38, y), (7, .v (.int .i64 v)), (0, byt true b'), (6, .v (.bool false)), (0, zz), (1, .v (.int .i64 a)), (2, .v (.int .i64 z))], []⟩ ∧
    ∃ c : Nat, x = c ∧ c < 2 ^ 63 ∧ q ≤ c ∧ k = (v - c).toNat) (v - q).toNat (by rcases hf with rfl | ⟨j, rfl, hj1, hj2, hj3, hj4⟩ <;> omega) ⟨_, _, _, rfl, q, rfl, hf63, by omega, rfl⟩ ?_
  rintro k s ⟨x, y, zz, rfl, c, rfl, hc63, hqc, hk⟩
  refine L_l01_NumCounts_0_lit ?_
  unfold B_l01_NumCounts_0
  by_cases hcv : (c : Int) < v
  · have h1 : decide ((c : Int) < v) = true := decide_eq_true hcv
    rcases hf with rfl | ⟨j, rfl, hj1, hj2, hj3, hj4⟩
    · omega
    · have t1 : cf (evFn cx0 ext0 9999) 9 [byt true b', .v (.int .i64 c)] = _ := Bit_ev 9997 b' true c (by omega) (by omega)
      rw [bitV_ok b' c (by omega), hj4 c hqc (by omega)] at t1
      have e3 : IntKind.i64.wrap ((c : Int) + 1) = ((c + 1 : Nat) : Int) := by rw [wrap64]; omega
      have stq := (And.intro (h1) (And.intro (t1) (And.intro (nt) (e3))))
      repeat first
        | ((with_reducible apply ends_bind); case h => first | (simp only [stp, stq]; first | done | rfl) | rfl)
        | ((with_reducible apply ends_t); case h => first | rfl | (simp only [stp, stq]; done))
        | ((with_reducible apply ends_f); case h => first | rfl | (simp only [stp, stq]; done))
      exact ends_some (.inl ⟨rfl, k - 1, by omega, _, _, _, rfl, c + 1, by first | rfl | exact e3, by omega, by omega, by omega⟩)
  · have h1 : decide ((c : Int) < v) = false := decide_eq_false hcv
    have stq := (h1)
    repeat first
      | ((with_reducible apply ends_bind); case h => first | (simp only [stp, stq]; first | done | rfl) | rfl)
      | ((with_reducible apply ends_t); case h => first | rfl | (simp only [stp, stq]; done))
      | ((with_reducible apply ends_f); case h => first | rfl | (simp only [stp, stq]; done))
    exact ends_some (.inr (.inl ⟨0, rfl, X_l01_NumCounts_0_0_lit (ex _ _ _ _)⟩))
end Go.Sy
