/-
  Layer 08: a shape's load, and a load's shape.
-/
import Derived.Test.YtdcngbkcemaklaaPfSeal
import Derived.Test.YtdcngbkcemaklaaPfGeom0
namespace Go.Sy
open Go.Proofs Num Crc Seal

abbrev gC (a b c : Int) : List AV := [.v (.int .i64 a), .v (.int .i64 b), .v (.int .i64 c)]
def magic : List UInt8 := [83, 67, 85, 80]
def nth (a b c i : Nat) : Nat := if i = 0 then a else if i = 1 then b else c
/-- the load's beginning -/
def pre (a b c : Nat) : Nat → List UInt8
  | 0 => magic
  | i + 1 => pre a b c i ++ p16 (nth a b c i)
theorem pre_len (a b c : Nat) : ∀ i, (pre a b c i).length = 4 + 2 * i
  | 0 => rfl
  | i + 1 => by
    unfold pre
    rw [List.length_append, pre_len a b c i]
    show 4 + 2 * i + 2 = _
    omega
/-- a shape's load -/
def sb (a b c : Nat) : List UInt8 := pre a b c 3 ++ zero 44
theorem sb_len (a b c : Nat) : (sb a b c).length = 54 := rfl
def supV (a b c : Int) : AV := if gOk a b c then .tup [.agg (u8l (sb a.toNat b.toNat c.toNat)), .v (.int .i64 0)] else .tup [.agg (u8l (zero 54)), .v (.int .i64 2)]
theorem h2b : arr8 Try.prog 60 2 = true := by kernel_rfl
theorem cv_u16 (bx : Bx) (n : Nat) (h : n < 65536) : convA Try.prog bx 3 62 (.v (.int .i64 n)) = some (.v (.int .u16 n), bx) := by
  have e : convA Try.prog bx 3 62 (.v (.int .i64 n)) = some (.v (.int .u16 (IntKind.u16.wrap n)), bx) := by kernel_rfl
  have w : IntKind.u16.wrap (n : Int) = n := by rw [wrap16]; omega
  rw [e, w]
theorem ix_3 (x y z : Nat) (i : Nat) (hi : i < 3) : indexA Try.prog 59 (.agg [.v (.int .i64 x), .v (.int .i64 y), .v (.int .i64 z)]) (.v (.int .i64 i)) = some (.v (.int .i64 (nth x y z i : Nat))) := by
  rcases i with _ | _ | _ | i
  · kernel_rfl
  · kernel_rfl
  · kernel_rfl
  · omega
theorem b_3 (x y z : AV) : buildA Try.prog 59 [(0, .v (.int .i64 0)), (1, .v (.int .i64 0)), (2, .v (.int .i64 0))] = some (.agg [.v (.int .i64 0), .v (.int .i64 0), .v (.int .i64 0)]) := by kernel_rfl
theorem b_3' (x y z : Int) : buildA Try.prog 59 [(0, .v (.int .i64 x)), (1, .v (.int .i64 y)), (2, .v (.int .i64 z))] = some (.agg [.v (.int .i64 x), .v (.int .i64 y), .v (.int .i64 z)]) := by kernel_rfl
theorem nth_lt (a b c i : Nat) (ha : a < 65536) (hb : b < 65536) (hc : c < 65536) : nth a b c i < 65536 := by
  unfold nth
  split
  · exact ha
  · split
    · exact hb
    · exact hc
theorem SPut_ev {k : Nat} (hk : 30 ≤ k) (a b c : Int) : cf (evFn cx0 ext0 k) 7 [gV a b c] = some (supV a b c) := by
  obtain ⟨m, rfl⟩ : ∃ m, k = m + 3 := ⟨k - 3, by omega⟩
  have c1 : cf (evFn cx0 ext0 (m + 2)) 21 [gV a b c] = _ := Check_ev m a b c
  have aL := al_a hL (P := Try.prog)
  have zl : (zero 54).length = 54 := rfl
  have lg := fun r => ld_g a b c r
  have fg := fa_g
  have li := fun r => ld_i (.v (.int .i64 a)) (.v (.int .i64 b)) (.v (.int .i64 c)) [] r
  have z0 := ld_a hL (P := Try.prog) (bx := [gC a b c, u8l (zero 54), u8l (zero 54)]) (k := 2) (b := zero 54) rfl zl
  have s0 := st_a hL (P := Try.prog) (bx := [gC a b c, u8l (zero 54), u8l (zero 54)]) (k := 1) (b := zero 54) (c := zero 54) rfl zl zl
  simp only [List.set_cons_succ, List.set_cons_zero] at s0
  unfold cf
  rw [E_super_Put]
  refine ends_cf (P := Try.prog) ?_
  unfold F_super_Put
  unfold supV
  by_cases h : gOk a b c
  · rw [show gE a b c = 0 from if_pos h] at c1
    rw [if_pos h]
    unfold gOk at h
    obtain ⟨a, rfl⟩ : ∃ x : Nat, a = x := ⟨a.toNat, by omega⟩
    obtain ⟨b, rfl⟩ : ∃ x : Nat, b = x := ⟨b.toNat, by omega⟩
    obtain ⟨c, rfl⟩ : ∃ x : Nat, c = x := ⟨c.toNat, by omega⟩
    simp only [Int.toNat_natCast]
    have z1 : ((0 : Int) != 0) = false := rfl
    have q0 := sl_a hL (P := Try.prog) (bx := [gC a b c, u8l (zero 54), u8l (zero 54)]) (k := 2) (b := zero 54) rfl zl
    have y1 : ∀ bx, readA bx (.v (.string (ByteArray.mk #[83, 67, 85, 80]))) = some (magic.length, u8l magic) := fun bx => rfl
    have cp := cp_b t8 (bx := [gC a b c, u8l (zero 54), u8l (zero 54)]) (k := 2) (off := 0) (n := 54) (b := zero 54) (d := magic) (y := .v (.string (ByteArray.mk #[83, 67, 85, 80]))) rfl (by simp) (y1 _) (by decide)
    rw [show (zero 54).take 0 ++ magic ++ (zero 54).drop (0 + magic.length) = pre a b c 0 ++ zero 50 from rfl] at cp
    simp only [List.set_cons_succ, List.set_cons_zero] at cp
    have bd := b_3' a b c
    have stq := (And.intro (box_g) (And.intro (aL) (And.intro (lg) (And.intro (frz_g) (And.intro (c1) (And.intro (z1) (And.intro (q0) (And.intro (cp) (And.intro (fg) (And.intro (li) (bd)))))))))))
    repeat first
      | ((with_reducible apply ends_bind); case h => first | (simp only [stp, stq]; first | done | rfl) | rfl)
      | ((with_reducible apply ends_t); case h => first | rfl | (simp only [stp, stq]; done))
      | ((with_reducible apply ends_f); case h => first | rfl | (simp only [stp, stq]; done))
    refine ends_loop (fun k st => ∃ (i : Nat) (y13 y5 y0 : AV) (b0 b1 b2 : List AV), st = ⟨[(25, .v (.int .i64 i)), (24, .agg [.v (.int .i64 a), .v (.int .i64 b), .v (.int .i64 c)]), (6, .v (.int .i64 ((4 + 2 * i : Nat) : Int))), (13, y13), (5, y5), (4, .bp 2 0), (3, .v (.int .i64 0)), (2, .bp 1 0), (1, .bp 0 0), (0, y0)], [b0, b1, b2]⟩ ∧
      b1 = u8l (zero 54) ∧ b2 = u8l (pre a b c i ++ zero (50 - 2 * i)) ∧ i + k = 3) 3 (by omega) ⟨0, _, _, _, _, _, _, rfl, rfl, rfl, by omega⟩ ?_
    rintro k st ⟨i, y13, y5, y0, b0, b1, b2, rfl, rfl, rfl, hik⟩
    refine L_super_Put_0_lit ?_
    unfold B_super_Put_0
    rcases k with _ | k
    · have g0 : decide ((i : Int) < 3) = false := decide_eq_false (by omega)
      have stq := (g0)
      repeat first
        | ((with_reducible apply ends_bind); case h => first | (simp only [stp, stq]; first | done | rfl) | rfl)
        | ((with_reducible apply ends_t); case h => first | rfl | (simp only [stp, stq]; done))
        | ((with_reducible apply ends_f); case h => first | rfl | (simp only [stp, stq]; done))
      refine ends_some (.inr (.inl ⟨0, rfl, X_super_Put_0_0_lit ?_⟩))
      unfold X_super_Put_0_0
      obtain rfl : i = 3 := by omega
      rw [show pre a b c 3 ++ zero (50 - 2 * 3) = sb a b c from rfl]
      have l2 := ld_a hL (P := Try.prog) (bx := [b0, u8l (zero 54), u8l (sb a b c)]) (k := 2) (b := sb a b c) rfl (sb_len a b c)
      have s2 := st_a hL (P := Try.prog) (bx := [b0, u8l (zero 54), u8l (sb a b c)]) (k := 1) (b := zero 54) (c := sb a b c) rfl zl (sb_len a b c)
      simp only [List.set_cons_succ, List.set_cons_zero] at s2
      have stq := (And.intro (l2) (s2))
      repeat first
        | ((with_reducible apply ends_bind); case h => first | (simp only [stp, stq]; first | done | rfl) | rfl)
        | ((with_reducible apply ends_t); case h => first | rfl | (simp only [stp, stq]; done))
        | ((with_reducible apply ends_f); case h => first | rfl | (simp only [stp, stq]; done))
      exact ends_some (retq_ct (ld_a hL (b := sb a b c) rfl (sb_len a b c)) (frz_agg _ _ _ _))
    · have g0 : decide ((i : Int) < 3) = true := decide_eq_true (by omega)
      have ix := ix_3 a b c i (by omega)
      have hx := nth_lt a b c i (by omega) (by omega) (by omega)
      have cv := fun bx => cv_u16 bx (nth a b c i) hx
      have c2 : cf (evFn cx0 ext0 (m + 2)) 22 [.v (.int .u16 (nth a b c i : Nat))] = some (.agg (u8l (p16 (nth a b c i)))) := put16_ev (m + 1) (nth a b c i)
      have a2 := al_a h2b (P := Try.prog)
      have zl2 : (zero 2).length = 2 := rfl
      have hp2 : (p16 (nth a b c i)).length = 2 := rfl
      have hpl := pre_len a b c i
      have hbl : (pre a b c i ++ zero (50 - 2 * i)).length = 54 := by rw [List.length_append, hpl, List.length_replicate]; omega
      have s3 := st_a h2b (P := Try.prog) (bx := [b0, u8l (zero 54), u8l (pre a b c i ++ zero (50 - 2 * i)), u8l (zero 2)]) (k := 3) (b := zero 2) (c := p16 (nth a b c i)) rfl zl2 hp2
      simp only [List.set_cons_succ, List.set_cons_zero] at s3
      have q1 := sl_alo hL (P := Try.prog) (bx := [b0, u8l (zero 54), u8l (pre a b c i ++ zero (50 - 2 * i)), u8l (p16 (nth a b c i))]) (k := 2) (b := pre a b c i ++ zero (50 - 2 * i)) rfl hbl .i64 (4 + 2 * i) (by omega)
      have q2 := sl_a h2b (P := Try.prog) (bx := [b0, u8l (zero 54), u8l (pre a b c i ++ zero (50 - 2 * i)), u8l (p16 (nth a b c i))]) (k := 3) (b := p16 (nth a b c i)) rfl hp2
      have y2 : readA [b0, u8l (zero 54), u8l (pre a b c i ++ zero (50 - 2 * i)), u8l (p16 (nth a b c i))] (.bsl 3 0 2 1) = some ((p16 (nth a b c i)).length, u8l (p16 (nth a b c i))) := by
        rw [rd_b (b := p16 (nth a b c i)) rfl, hp2, List.drop_zero, List.take_of_length_le (by omega)]
      have cp2 := cp_b t8 (bx := [b0, u8l (zero 54), u8l (pre a b c i ++ zero (50 - 2 * i)), u8l (p16 (nth a b c i))]) (k := 2) (off := 4 + 2 * i) (n := 54 - (4 + 2 * i)) (b := pre a b c i ++ zero (50 - 2 * i)) (d := p16 (nth a b c i)) (y := .bsl 3 0 2 1) rfl (by omega) y2 (by omega)
      have hnew : (pre a b c i ++ zero (50 - 2 * i)).take (4 + 2 * i) ++ p16 (nth a b c i) ++ (pre a b c i ++ zero (50 - 2 * i)).drop (4 + 2 * i + 2) = pre a b c (i + 1) ++ zero (50 - 2 * (i + 1)) := by
        rw [List.take_left' hpl, ← List.drop_drop, List.drop_left' hpl, List.drop_replicate, show 50 - 2 * i - 2 = 50 - 2 * (i + 1) by omega]
        rfl
      rw [hp2, hnew] at cp2
      simp only [List.set_cons_succ, List.set_cons_zero] at cp2
      have e1 : IntKind.i64.wrap (((4 + 2 * i : Nat) : Int) + ((2 : Nat) : Int)) = ((4 + 2 * (i + 1) : Nat) : Int) := by rw [wrap64]; omega
      have e3 : IntKind.i64.wrap ((i : Int) + 1) = ((i + 1 : Nat) : Int) := by rw [wrap64]; omega
      have stq := (And.intro (g0) (And.intro (ix) (And.intro (cv) (And.intro (c2) (And.intro (a2) (And.intro (s3) (And.intro (q1) (And.intro (q2) (And.intro (cp2) (And.intro (e1) (e3)))))))))))
      repeat first
        | ((with_reducible apply ends_bind); case h => first | (simp only [stp, stq]; first | done | rfl) | rfl)
        | ((with_reducible apply ends_t); case h => first | rfl | (simp only [stp, stq]; done))
        | ((with_reducible apply ends_f); case h => first | rfl | (simp only [stp, stq]; done))
      exact ends_some (.inl ⟨rfl, k, by omega, i + 1, _, _, _, _, _, _, by first | rfl | (rw [← e3]; rfl), u8l_keep _ _, u8l_keep _ _, by omega⟩)
  · rw [show gE a b c = 2 from if_neg h] at c1
    rw [if_neg h]
    have z1 : ((2 : Int) != 0) = true := rfl
    have stq := (And.intro (box_g) (And.intro (aL) (And.intro (lg) (And.intro (frz_g) (And.intro (c1) (And.intro (z1) (And.intro (z0) (s0))))))))
    repeat first
      | ((with_reducible apply ends_bind); case h => first | (simp only [stp, stq]; first | done | rfl) | rfl)
      | ((with_reducible apply ends_t); case h => first | rfl | (simp only [stp, stq]; done))
      | ((with_reducible apply ends_f); case h => first | rfl | (simp only [stp, stq]; done))
    exact ends_some (retq_ct (ld_a hL (b := zero 54) rfl zl) (frz_agg _ _ _ _))
theorem app_s (A B : List AV) (hA : A.map (AV.keep (· != 2)) = A) (hB : B.map (AV.keep (· != 2)) = B) (q : List UInt8) (x : List UInt8) (N : Nat) (hN : N = q.length) (hq : q.length < 100) (hx : x.length < 100) :
    appA Try.prog 0 [A, B, u8l q] 58 (.bsl 2 0 N 1) (byt false x) = some (.bsl 2 0 (q.length + x.length) 1, AV.keep (· != 2), [A, B, u8l (q ++ x)]) := by
  rw [appV t8 0 _ (byt false x) 2 q x N rfl (by omega) rfl (by omega) (by omega) hN]
  simp only [List.map_cons, List.map_nil, hA, hB, List.set_cons_succ, List.set_cons_zero]
theorem fill_to (B : List UInt8) (i N : Nat) (hi : i < B.length) (hN : B.length ≤ N) : (B.take i ++ zero (N - i)).set i (B[i]'hi) = B.take (i + 1) ++ zero (N - (i + 1)) := by
  have h1 : (B.take i).length = i := by rw [List.length_take]; omega
  rw [List.set_append_right _ _ (by omega), h1, Nat.sub_self, show N - i = (N - (i + 1)) + 1 by omega, show zero (N - (i + 1) + 1) = 0 :: zero (N - (i + 1)) from rfl, List.set_cons_zero, List.take_succ_eq_append_getElem hi]
  simp only [List.append_assoc, List.cons_append, List.nil_append]
theorem sz8 : szA Try.prog 5 = some 1 := by kernel_rfl
theorem ag8 : agA Try.prog 5 = some false := by kernel_rfl
theorem bs_m (bx : Bx) : buildSliceA Try.prog bx 58 4 [(0, .v (.int .u8 83)), (1, .v (.int .u8 67)), (2, .v (.int .u8 85)), (3, .v (.int .u8 80))] = some (.bsl bx.length 0 4 1, bx ++ [u8l magic]) := by kernel_rfl
theorem rSPut_ev {k : Nat} (hk : 30 ≤ k) (a b c : Int) : cf (evFn cx0 ext0 k) 8 [gV a b c] = some (supV a b c) := by
  obtain ⟨m, rfl⟩ : ∃ m, k = m + 3 := ⟨k - 3, by omega⟩
  have c1 : cf (evFn cx0 ext0 (m + 2)) 23 [gV a b c] = _ := rCheck_ev (m + 1) a b c
  have aL := al_a hL (P := Try.prog)
  have zl : (zero 54).length = 54 := rfl
  have lg := fun r => ld_g a b c r
  have fg := fa_g
  have li := fun r => ld_i (.v (.int .i64 a)) (.v (.int .i64 b)) (.v (.int .i64 c)) [] r
  have zb := z_a hL (P := Try.prog)
  unfold cf
  rw [E_r08_Put]
  refine ends_cf (P := Try.prog) ?_
  unfold F_r08_Put
  unfold supV
  by_cases h : gOk a b c
  · rw [show gE a b c = 0 from if_pos h] at c1
    rw [if_pos h]
    unfold gOk at h
    obtain ⟨a, rfl⟩ : ∃ x : Nat, a = x := ⟨a.toNat, by omega⟩
    obtain ⟨b, rfl⟩ : ∃ x : Nat, b = x := ⟨b.toNat, by omega⟩
    obtain ⟨c, rfl⟩ : ∃ x : Nat, c = x := ⟨c.toNat, by omega⟩
    simp only [Int.toNat_natCast]
    have z1 : ((0 : Int) != 0) = false := rfl
    have cva := fun bx => cv_u16 bx a (by omega)
    have cvb := fun bx => cv_u16 bx b (by omega)
    have cvc := fun bx => cv_u16 bx c (by omega)
    have p1 : cf (evFn cx0 ext0 (m + 2)) 24 [.v (.int .u16 a)] = _ := rput16_ev (m + 1) a (by omega)
    have p2 : cf (evFn cx0 ext0 (m + 2)) 24 [.v (.int .u16 b)] = _ := rput16_ev (m + 1) b (by omega)
    have p3 : cf (evFn cx0 ext0 (m + 2)) 24 [.v (.int .u16 c)] = _ := rput16_ev (m + 1) c (by omega)
    have kA : (gC a b c).map (AV.keep (· != 2)) = gC a b c := rfl
    have kB : (u8l (zero 54)).map (AV.keep (· != 2)) = u8l (zero 54) := u8l_keep _ _
    have a1 : appA Try.prog 0 [gC a b c, u8l (zero 54), u8l magic] 58 (.bsl 2 0 4 1) (byt false (p16 a)) = some (.bsl 2 0 6 1, AV.keep (· != 2), [gC a b c, u8l (zero 54), u8l (pre a b c 1)]) := app_s _ _ kA kB magic (p16 a) 4 rfl (by decide) (by simp [p16])
    have a2 : appA Try.prog 0 [gC a b c, u8l (zero 54), u8l (pre a b c 1)] 58 (.bsl 2 0 6 1) (byt false (p16 b)) = some (.bsl 2 0 8 1, AV.keep (· != 2), [gC a b c, u8l (zero 54), u8l (pre a b c 2)]) := app_s _ _ kA kB (pre a b c 1) (p16 b) 6 rfl (by simp [pre, magic, p16]) (by simp [p16])
    have a3 : appA Try.prog 0 [gC a b c, u8l (zero 54), u8l (pre a b c 2)] 58 (.bsl 2 0 8 1) (byt false (p16 c)) = some (.bsl 2 0 10 1, AV.keep (· != 2), [gC a b c, u8l (zero 54), u8l (pre a b c 3)]) := app_s _ _ kA kB (pre a b c 2) (p16 c) 8 rfl (by simp [pre, magic, p16]) (by simp [p16])
    have bm := bs_m [gC a b c, u8l (zero 54)]
    have hpl : (pre a b c 3).length = 10 := rfl
    have s3 := st_a hL (P := Try.prog) (bx := [gC a b c, u8l (zero 54), u8l (pre a b c 3), u8l (zero 54)]) (k := 3) (b := zero 54) (c := zero 54) rfl zl zl
    simp only [List.set_cons_succ, List.set_cons_zero] at s3
    have stq := (And.intro (box_g) (And.intro (aL) (And.intro (lg) (And.intro (frz_g) (And.intro (c1) (And.intro (z1) (And.intro (bm) (And.intro (fg) (And.intro (li) (And.intro (cva) (And.intro (cvb) (And.intro (cvc) (And.intro (p1) (And.intro (p2) (And.intro (p3) (And.intro (a1) (And.intro (a2) (And.intro (a3) (And.intro (zb) (s3))))))))))))))))))))
    repeat first
      | ((with_reducible apply ends_bind); case h => first | (simp only [stp, stq]; first | done | rfl) | rfl)
      | ((with_reducible apply ends_t); case h => first | rfl | (simp only [stp, stq]; done))
      | ((with_reducible apply ends_f); case h => first | rfl | (simp only [stp, stq]; done))
    refine ends_loop (fun k st => ∃ (i : Nat) (z5 z11 z4 z0 : AV) (b0 b1 b2 b3 : List AV), st = ⟨[(7, .v (.int .i64 i)), (6, .bp 3 0), (5, .bsl 2 0 10 1), (5, z5), (11, z11), (4, z4), (3, .v (.int .i64 0)), (2, .bp 1 0), (1, .bp 0 0), (0, z0)], [b0, b1, b2, b3]⟩ ∧
      b1 = u8l (zero 54) ∧ b2 = u8l (pre a b c 3) ∧ b3 = u8l ((pre a b c 3).take i ++ zero (54 - i)) ∧ i + k = 10) 10 (by omega) ⟨0, _, _, _, _, _, _, _, _, rfl, rfl, rfl, rfl, by omega⟩ ?_
    rintro k st ⟨i, z5, z11, z4, z0, b0, b1, b2, b3, rfl, rfl, rfl, rfl, hik⟩
    refine L_r08_Put_0_lit ?_
    unfold B_r08_Put_0
    have ln : lenA Try.prog 58 (.bsl 2 0 10 1) = some (.v (.int .i64 10)) := by kernel_rfl
    rcases k with _ | k
    · have g0 : decide ((i : Int) < 10) = false := decide_eq_false (by omega)
      have stq := (And.intro (ln) (g0))
      repeat first
        | ((with_reducible apply ends_bind); case h => first | (simp only [stp, stq]; first | done | rfl) | rfl)
        | ((with_reducible apply ends_t); case h => first | rfl | (simp only [stp, stq]; done))
        | ((with_reducible apply ends_f); case h => first | rfl | (simp only [stp, stq]; done))
      refine ends_some (.inr (.inl ⟨0, rfl, X_r08_Put_0_0_lit ?_⟩))
      unfold X_r08_Put_0_0
      obtain rfl : i = 10 := by omega
      rw [show (pre a b c 3).take 10 ++ zero (54 - 10) = sb a b c from rfl]
      have l2 := ld_a hL (P := Try.prog) (bx := [b0, u8l (zero 54), u8l (pre a b c 3), u8l (sb a b c)]) (k := 3) (b := sb a b c) rfl (sb_len a b c)
      have s2 := st_a hL (P := Try.prog) (bx := [b0, u8l (zero 54), u8l (pre a b c 3), u8l (sb a b c)]) (k := 1) (b := zero 54) (c := sb a b c) rfl zl (sb_len a b c)
      simp only [List.set_cons_succ, List.set_cons_zero] at s2
      have stq := (And.intro (l2) (s2))
      repeat first
        | ((with_reducible apply ends_bind); case h => first | (simp only [stp, stq]; first | done | rfl) | rfl)
        | ((with_reducible apply ends_t); case h => first | rfl | (simp only [stp, stq]; done))
        | ((with_reducible apply ends_f); case h => first | rfl | (simp only [stp, stq]; done))
      exact ends_some (retq_ct (ld_a hL (b := sb a b c) rfl (sb_len a b c)) (frz_agg _ _ _ _))
    · have g0 : decide ((i : Int) < 10) = true := decide_eq_true (by omega)
      have hi : i < (pre a b c 3).length := by omega
      have x1 := idx_b8 t8 (P := Try.prog) 2 0 10 .i64 i (by omega)
      rw [Nat.zero_add] at x1
      have l1 := ld_b8 sz8 ag8 [b0, u8l (zero 54), u8l (pre a b c 3), u8l ((pre a b c 3).take i ++ zero (54 - i))] 2 i (pre a b c 3) rfl hi
      have x2 := ix_a hL (P := Try.prog) 3 0 .i64 i (by omega)
      rw [Nat.zero_add] at x2
      have s5 := st_b8 sz8 [b0, u8l (zero 54), u8l (pre a b c 3), u8l ((pre a b c 3).take i ++ zero (54 - i))] 3 i ((pre a b c 3).take i ++ zero (54 - i)) ((pre a b c 3)[i]'hi) rfl (by rw [List.length_append, List.length_take, List.length_replicate]; omega)
      rw [fill_to (pre a b c 3) i 54 hi (by omega)] at s5
      simp only [List.set_cons_succ, List.set_cons_zero] at s5
      have e3 : IntKind.i64.wrap ((i : Int) + 1) = ((i + 1 : Nat) : Int) := by rw [wrap64]; omega
      have stq := (And.intro (ln) (And.intro (g0) (And.intro (x1) (And.intro (l1) (And.intro (x2) (And.intro (s5) (e3)))))))
      repeat first
        | ((with_reducible apply ends_bind); case h => first | (simp only [stp, stq]; first | done | rfl) | rfl)
        | ((with_reducible apply ends_t); case h => first | rfl | (simp only [stp, stq]; done))
        | ((with_reducible apply ends_f); case h => first | rfl | (simp only [stp, stq]; done))
      exact ends_some (.inl ⟨rfl, k, by omega, i + 1, _, _, _, _, _, _, _, _, by first | rfl | (rw [← e3]; rfl), u8l_keep _ _, u8l_keep _ _, u8l_keep _ _, by omega⟩)
  · rw [show gE a b c = 2 from if_neg h] at c1
    rw [if_neg h]
    have z1 : ((2 : Int) != 0) = true := rfl
    have s0 := st_a hL (P := Try.prog) (bx := [gC a b c, u8l (zero 54)]) (k := 1) (b := zero 54) (c := zero 54) rfl zl zl
    simp only [List.set_cons_succ, List.set_cons_zero] at s0
    have stq := (And.intro (box_g) (And.intro (aL) (And.intro (lg) (And.intro (frz_g) (And.intro (c1) (And.intro (z1) (And.intro (zb) (s0))))))))
    repeat first
      | ((with_reducible apply ends_bind); case h => first | (simp only [stp, stq]; first | done | rfl) | rfl)
      | ((with_reducible apply ends_t); case h => first | rfl | (simp only [stp, stq]; done))
      | ((with_reducible apply ends_f); case h => first | rfl | (simp only [stp, stq]; done))
    exact ends_some (retq_ct (ld_a hL (b := zero 54) rfl zl) (frz_agg _ _ _ _))
end Go.Sy
