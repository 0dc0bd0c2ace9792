/-
  Layer 09: how many places there are, the first free one, heads.
-/
import Derived.Test.YtapjcmloaeaefaaPfMaps
import Derived.Test.YtapjcmloaeaefaaPfMany
namespace Go.Sy
open Go.Proofs Num Go.Proofs.Ytapjcmloaeaefaa

theorem rmany_ev (m : Nat) (a b c k : Int) : cf (evFn cx0 ext0 (m + 2)) 31 [gV a b c, .v (.int .i64 k)] = some (.v (.int .i64 (manyN a b c k : Nat))) := by
  have hb := box_g [] a b c
  have hl := ld_g a b c []
  have c1 : cf (evFn cx0 ext0 (m + 1)) 42 [gV a b c] = _ := rCheck_ev m a b c
  have hi := ld_i (.v (.int .i64 a)) (.v (.int .i64 b)) (.v (.int .i64 c)) [] []
  unfold cf
  rw [E_r09_many]
  refine ends_cf (P := Try.prog) ?_
  unfold F_r09_many manyN
  by_cases h : gOk a b c
  · rw [show gE a b c = 0 from if_pos h] at c1
    rw [if_pos h]
    unfold gOk at h
    have z0 : ((0 : Int) != 0) = false := rfl
    by_cases hk : k = 0
    · subst hk
      have z1 : ((0 : Int) == 0) = true := rfl
      rw [if_pos rfl]
      obtain ⟨c, rfl⟩ : ∃ x : Nat, c = x := ⟨c.toNat, by omega⟩
      rw [Int.toNat_natCast]
      have stq := (And.intro (hb) (And.intro (hl) (And.intro (frz_g) (And.intro (c1) (And.intro (z0) (And.intro (z1) (And.intro (fa_g) (hi))))))))
      repeat first
        | ((with_reducible apply ends_bind); case h => first | (simp only [stp, stq]; first | done | rfl) | rfl)
        | ((with_reducible apply ends_t); case h => first | rfl | (simp only [stp, stq]; done))
        | ((with_reducible apply ends_f); case h => first | rfl | (simp only [stp, stq]; done))
      exact ends_some ⟨.inl rfl, _, rfl, rfl⟩
    · have z1 : (k == 0) = false := by simpa using hk
      rw [if_neg hk]
      by_cases hk4 : k = 4
      · subst hk4
        have z4 : ((4 : Int) == 4) = true := rfl
        have w : IntKind.i64.wrap (3 * b) = ((3 * b).toNat : Nat) := by rw [wrap64]; omega
        rw [if_pos rfl]
        have stq := (And.intro (hb) (And.intro (hl) (And.intro (frz_g) (And.intro (c1) (And.intro (z0) (And.intro (z1) (And.intro (z4) (And.intro (fa_g) (And.intro (hi) (w))))))))))
        repeat first
          | ((with_reducible apply ends_bind); case h => first | (simp only [stp, stq]; first | done | rfl) | rfl)
          | ((with_reducible apply ends_t); case h => first | rfl | (simp only [stp, stq]; done))
          | ((with_reducible apply ends_f); case h => first | rfl | (simp only [stp, stq]; done))
        exact ends_some ⟨.inl rfl, _, rfl, rfl⟩
      · have z4 : (k == 4) = false := by simpa using hk4
        rw [if_neg hk4]
        have stq := (And.intro (hb) (And.intro (hl) (And.intro (frz_g) (And.intro (c1) (And.intro (z0) (And.intro (z1) (z4)))))))
        repeat first
          | ((with_reducible apply ends_bind); case h => first | (simp only [stp, stq]; first | done | rfl) | rfl)
          | ((with_reducible apply ends_t); case h => first | rfl | (simp only [stp, stq]; done))
          | ((with_reducible apply ends_f); case h => first | rfl | (simp only [stp, stq]; done))
        exact ends_some ⟨.inl rfl, _, rfl, rfl⟩
  · rw [show gE a b c = 2 from if_neg h] at c1
    rw [if_neg h]
    have z0 : ((2 : Int) != 0) = true := rfl
    have stq := (And.intro (hb) (And.intro (hl) (And.intro (frz_g) (And.intro (c1) (z0)))))
    repeat first
      | ((with_reducible apply ends_bind); case h => first | (simp only [stp, stq]; first | done | rfl) | rfl)
      | ((with_reducible apply ends_t); case h => first | rfl | (simp only [stp, stq]; done))
      | ((with_reducible apply ends_f); case h => first | rfl | (simp only [stp, stq]; done))
    exact ends_some ⟨.inl rfl, _, rfl, rfl⟩
theorem mp_len (p : List UInt8) (hp : p.length = 54) (k : Int) : (mp p k).length = (pSz k).toNat := by
  have := part_le k
  unfold mp
  rw [List.length_take, List.length_drop]
  omega
theorem sz_le (k : Int) : (pSz k).toNat ≤ 16 := by
  unfold pSz
  split
  · decide
  · split <;> decide
theorem at_bit {k i : Int} (h : bitOk k i) : (bitK k i).toNat = 8 * (pAt k).toNat + i.toNat ∧ i.toNat < 8 * (pSz k).toNat ∧ 0 ≤ i := by
  have hb : bitK k i = if k = 4 then 128 + i else i := if_pos h
  rw [hb]
  unfold bitOk at h
  unfold pAt pSz
  rcases h with h | h
  · obtain ⟨rfl, h1, h2⟩ := h
    rw [if_neg (by omega), if_neg (by omega), if_pos rfl]
    omega
  · obtain ⟨rfl, h1, h2⟩ := h
    rw [if_pos rfl, if_pos rfl, if_neg (by omega)]
    simp only [if_true]
    omega
theorem bit_mp (p : List UInt8) (k i : Int) (h : bitOk k i) : bitAt p (bitK k i).toNat = bitAt (mp p k) i.toNat := by
  obtain ⟨h1, h2, h3⟩ := at_bit h
  rw [h1]
  unfold bitAt mp
  rw [show (8 * (pAt k).toNat + i.toNat) % 8 = i.toNat % 8 by omega, show (8 * (pAt k).toNat + i.toNat) / 8 = (pAt k).toNat + i.toNat / 8 by omega]
  congr 1
  rw [List.getD_eq_getElem?_getD, List.getD_eq_getElem?_getD, List.getElem?_take, if_pos (by omega), List.getElem?_drop]
theorem lg1 (A : List AV) (x y z : Int) (r : Bx) : loadA Try.prog 25 (A :: [.v (.int .i64 x), .v (.int .i64 y), .v (.int .i64 z)] :: r) (.bp 1 0) = some (gV x y z) := by kernel_rfl
theorem bx_g (bx : Bx) (a b c : Int) : boxA bx (gV a b c) = some (.bp bx.length 0, bx ++ [[.v (.int .i64 a), .v (.int .i64 b), .v (.int .i64 c)]]) := by kernel_rfl
/-- the first place that is free -/
def frst (p : List UInt8) (a b c k f : Int) : Int := fst0 (mp p k) (frm f) (manyN a b c k - frm f)
theorem fst0_lim (p : List UInt8) (hp : p.length = 54) (a b c k f : Int) : fstV (mp p k) f (manyN a b c k : Nat) = frst p a b c k f := by
  unfold fstV frst
  have h := mp_len p hp k
  have h2 := many_le a b c k
  rw [show lim (mp p k) (manyN a b c k : Nat) = manyN a b c k by unfold lim; omega]
theorem MFirst_ev {n : Nat} (hn : 200 ≤ n) (p : List UInt8) (hp : p.length = 54) (a b c k f : Int) (hf : f < 2 ^ 63) : cf (evFn cx0 ext0 n) 8 [.agg (u8l p), gV a b c, .v (.int .i64 k), .v (.int .i64 f)] = some (.v (.int .i64 (frst p a b c k f))) := by
  obtain ⟨m, rfl⟩ : ∃ k, n = k + 4 := ⟨n - 4, by omega⟩
  have c1 : cf (evFn cx0 ext0 (m + 3)) 26 [gV a b c, .v (.int .i64 k)] = _ := many_ev m a b c k
  have c2 : cf (evFn cx0 ext0 (m + 3)) 28 [.agg (u8l p), .v (.int .i64 k)] = _ := of_ext (m + 2) p hp k
  have lg := fun r => lg1 (u8l p) a b c r
  have lp := fun r => ld_a hL (P := Try.prog) (bx := u8l p :: r) (k := 0) (b := p) rfl hp
  have hl := mp_len p hp k
  have hz := sz_le k
  have c3 : cf (evFn cx0 ext0 (m + 3)) 27 [byt false (mp p k), .v (.int .i64 f), .v (.int .i64 (manyN a b c k : Nat))] = _ := First_ev (n := m + 3) (mp p k) false f (manyN a b c k : Nat) hf (by omega) (by omega)
  rw [fst0_lim p hp] at c3
  have fb : ∀ bx, frz bx true 6 (byt false (mp p k)) = byt false (mp p k) := fun bx => rfl
  unfold cf
  rw [E_maps_First]
  refine ends_cf (P := Try.prog) ?_
  unfold F_maps_First
  by_cases h0 : manyN a b c k = 0
  · have z0 : (((manyN a b c k : Nat) : Int) == 0) = true := by simpa using h0
    rw [show frst p a b c k f = -1 by unfold frst; rw [h0, Nat.zero_sub]; rfl]
    have stq := (And.intro (box_agg) (And.intro (bx_g) (And.intro (lg) (And.intro (frz_g) (And.intro (c1) (z0))))))
    repeat first
      | ((with_reducible apply ends_bind); case h => first | (simp only [stp, stq]; first | done | rfl) | rfl)
      | ((with_reducible apply ends_t); case h => first | rfl | (simp only [stp, stq]; done))
      | ((with_reducible apply ends_f); case h => first | rfl | (simp only [stp, stq]; done))
    exact ends_some ⟨.inl rfl, _, rfl, rfl⟩
  · have z0 : (((manyN a b c k : Nat) : Int) == 0) = false := by simpa using h0
    have stq := (And.intro (box_agg) (And.intro (bx_g) (And.intro (lg) (And.intro (frz_g) (And.intro (c1) (And.intro (z0) (And.intro (lp) (And.intro (frz_agg) (And.intro (c2) (And.intro (fb) (c3)))))))))))
    repeat first
      | ((with_reducible apply ends_bind); case h => first | (simp only [stp, stq]; first | done | rfl) | rfl)
      | ((with_reducible apply ends_t); case h => first | rfl | (simp only [stp, stq]; done))
      | ((with_reducible apply ends_f); case h => first | rfl | (simp only [stp, stq]; done))
    exact ends_some ⟨.inl rfl, _, rfl, rfl⟩
theorem ok_many {a b c k : Int} {i : Nat} (h : i < manyN a b c k) : bitOk k i := by
  unfold manyN at h
  split at h
  · rename_i hg
    unfold gOk at hg
    unfold bitOk
    split at h
    · omega
    · split at h <;> omega
  · omega
theorem rMFirst_ev {n : Nat} (hn : 250 ≤ n) (p : List UInt8) (hp : p.length = 54) (a b c k f : Int) (hf : f < 2 ^ 63) (hf0 : -9223372036854775808 ≤ f) : cf (evFn cx0 ext0 n) 10 [.agg (u8l p), gV a b c, .v (.int .i64 k), .v (.int .i64 f)] = some (.v (.int .i64 (frst p a b c k f))) := by
  obtain ⟨m, rfl⟩ : ∃ k, n = k + 4 := ⟨n - 4, by omega⟩
  have c1 : cf (evFn cx0 ext0 (m + 3)) 31 [gV a b c, .v (.int .i64 k)] = _ := rmany_ev (m + 1) a b c k
  have lg := fun r => lg1 (u8l p) a b c r
  have lp := fun r => ld_a hL (P := Try.prog) (bx := u8l p :: r) (k := 0) (b := p) rfl hp
  have mm : minL true (.v (.int .i64 f)) [.v (.int .i64 0)] = some (.v (.int .i64 (frm f : Nat))) := by
    have : minL true (.v (.int .i64 f)) [.v (.int .i64 0)] = some (.v (.int .i64 (if 0 > f then 0 else f))) := rfl
    rw [this]
    congr 3
    unfold frm
    split <;> omega
  have hl := mp_len p hp k
  have hz := sz_le k
  have hml := many_le a b c k
  unfold cf
  rw [E_r09_First]
  refine ends_cf (P := Try.prog) ?_
  unfold F_r09_First
  have stq := (And.intro (box_agg) (And.intro (bx_g) (mm)))
  repeat first
    | ((with_reducible apply ends_bind); case h => first | (simp only [stp, stq]; first | done | rfl) | rfl)
    | ((with_reducible apply ends_t); case h => first | rfl | (simp only [stp, stq]; done))
    | ((with_reducible apply ends_f); case h => first | rfl | (simp only [stp, stq]; done))
  refine ends_loop (fun j st => ∃ (i : Nat) (y8 y0 y1 : AV) (b0 b1 : List AV), st = ⟨[(9, .v (.int .i64 i)), (8, y8), (5, .bp 1 0), (4, .bp 0 0), (0, y0), (1, y1), (2, .v (.int .i64 k)), (3, .v (.int .i64 f))], [b0, b1]⟩ ∧
    b0 = u8l p ∧ b1 = [.v (.int .i64 a), .v (.int .i64 b), .v (.int .i64 c)] ∧ frst p a b c k f = fst0 (mp p k) i (manyN a b c k - i) ∧ j = manyN a b c k - i ∧ (i : Int) < 2 ^ 63) (manyN a b c k - frm f) (by omega) ⟨frm f, _, _, _, _, _, rfl, rfl, rfl, rfl, rfl, by unfold frm; omega⟩ ?_
  rintro j st ⟨i, y8, y0, y1, b0, b1, rfl, rfl, rfl, hfr, hj, hi63⟩
  refine L_r09_First_0_lit ?_
  unfold B_r09_First_0
  rcases j with _ | j
  · have g0 : decide ((i : Int) < (manyN a b c k : Nat)) = false := decide_eq_false (by omega)
    have stq := (And.intro (lg) (And.intro (frz_g) (And.intro (c1) (g0))))
    repeat first
      | ((with_reducible apply ends_bind); case h => first | (simp only [stp, stq]; first | done | rfl) | rfl)
      | ((with_reducible apply ends_t); case h => first | rfl | (simp only [stp, stq]; done))
      | ((with_reducible apply ends_f); case h => first | rfl | (simp only [stp, stq]; done))
    refine ends_some (.inr (.inl ⟨0, rfl, X_r09_First_0_0_lit ?_⟩))
    unfold X_r09_First_0_0
    rw [hfr, ← hj]
    exact ends_some ⟨.inl rfl, _, rfl, rfl⟩
  · have g0 : decide ((i : Int) < (manyN a b c k : Nat)) = true := decide_eq_true (by omega)
    have hok : bitOk k i := ok_many (a := a) (b := b) (c := c) (by omega)
    have c2 : cf (evFn cx0 ext0 (m + 3)) 19 [.agg (u8l p), .v (.int .i64 k), .v (.int .i64 i)] = _ := rTaken_ev (n := m + 3) (by omega) p hp k i
    rw [show takV p k i = _ from if_pos hok, bit_mp p k i hok, Int.toNat_natCast] at c2
    rw [← hj] at hfr
    unfold fst0 at hfr
    have e3 : IntKind.i64.wrap ((i : Int) + 1) = ((i + 1 : Nat) : Int) := by rw [wrap64]; omega
    have n1 : (!true) = false := rfl
    have n2 : (!false) = true := rfl
    cases hbt : bitAt (mp p k) i
    · rw [hbt] at c2 hfr
      simp only [Bool.false_eq_true, if_false] at hfr
      have stq := (And.intro (lg) (And.intro (frz_g) (And.intro (c1) (And.intro (g0) (And.intro (lp) (And.intro (frz_agg) (And.intro (c2) (n2))))))))
      repeat first
        | ((with_reducible apply ends_bind); case h => first | (simp only [stp, stq]; first | done | rfl) | rfl)
        | ((with_reducible apply ends_t); case h => first | rfl | (simp only [stp, stq]; done))
        | ((with_reducible apply ends_f); case h => first | rfl | (simp only [stp, stq]; done))
      rw [hfr]
      exact ends_some (.inr (.inr ⟨rfl, .inl rfl, _, rfl, rfl⟩))
    · rw [hbt] at c2 hfr
      simp only [if_true] at hfr
      have stq := (And.intro (lg) (And.intro (frz_g) (And.intro (c1) (And.intro (g0) (And.intro (lp) (And.intro (frz_agg) (And.intro (c2) (And.intro (n1) (e3)))))))))
      repeat first
        | ((with_reducible apply ends_bind); case h => first | (simp only [stp, stq]; first | done | rfl) | rfl)
        | ((with_reducible apply ends_t); case h => first | rfl | (simp only [stp, stq]; done))
        | ((with_reducible apply ends_f); case h => first | rfl | (simp only [stp, stq]; done))
      exact ends_some (.inl ⟨rfl, j, by omega, i + 1, _, _, _, _, _, by first | rfl | (rw [← e3]; rfl), u8l_keep _ _, rfl, by rw [hfr]; congr 1; omega, by omega, by omega⟩)
end Go.Sy
