/-
  Layer 08: a load's shape; a shape's sector.
-/
import Derived.Test.YtdcngbkcemaklaaPfSup
namespace Go.Sy
open Go.Proofs Num Crc Seal

def wd (p : List UInt8) (i : Nat) : Nat := le ((p.drop (4 + 2 * i)).take 2)
theorem wd_lt (p : List UInt8) (i : Nat) : wd p i < 65536 := by
  unfold wd
  have h : ∀ l : List UInt8, l.length ≤ 2 → le l < 65536 := by
    intro l hl
    match l, hl with
    | [], _ => simp [le]
    | [a], _ => have := UInt8.toNat_lt a; simp [le]; omega
    | [a, c], _ => have := UInt8.toNat_lt a; have := UInt8.toNat_lt c; simp [le]; omega
  exact h _ (by rw [List.length_take]; omega)
theorem cv_n (bx : Bx) (n : Nat) (h : n < 65536) : convA Try.prog bx 62 3 (.v (.int .u16 n)) = some (.v (.int .i64 n), bx) := by
  have e : convA Try.prog bx 62 3 (.v (.int .u16 n)) = some (.v (.int .i64 (IntKind.i64.wrap n)), bx) := by kernel_rfl
  have w : IntKind.i64.wrap (n : Int) = n := by rw [wrap64]; omega
  rw [e, w]
def okG (p : List UInt8) : Prop := gOk (wd p 0) (wd p 1) (wd p 2) ∧ sb (wd p 0) (wd p 1) (wd p 2) = p
instance (p : List UInt8) : Decidable (okG p) := by unfold okG; infer_instance
def getS (p : List UInt8) : AV := if okG p then .tup [gV (wd p 0) (wd p 1) (wd p 2), .v (.int .i64 0)] else .tup [gV 0 0 0, .v (.int .i64 22)]
theorem al_g (bx : Bx) : allocA Try.prog bx 23 = some (.bp bx.length 0, bx ++ [gC 0 0 0]) := by kernel_rfl
theorem al_3 (bx : Bx) : allocA Try.prog bx 59 = some (.bp bx.length 0, bx ++ [gC 0 0 0]) := by kernel_rfl
theorem b_g (x y z : Int) : buildA Try.prog 23 [(0, .v (.int .i64 x)), (1, .v (.int .i64 y)), (2, .v (.int .i64 z))] = some (gV x y z) := by kernel_rfl
theorem st_3 (A B : List AV) (x y z n : Int) (r : Bx) : stA Try.prog 3 (A :: B :: gC x y z :: r) (.bp 2 0) (.v (.int .i64 n)) = some (.v undef, A :: B :: gC n y z :: r) ∧ stA Try.prog 3 (A :: B :: gC x y z :: r) (.bp 2 1) (.v (.int .i64 n)) = some (.v undef, A :: B :: gC x n z :: r) ∧ stA Try.prog 3 (A :: B :: gC x y z :: r) (.bp 2 2) (.v (.int .i64 n)) = some (.v undef, A :: B :: gC x y n :: r) := ⟨by kernel_rfl, by kernel_rfl, by kernel_rfl⟩
theorem ia_3 : indexAddrA Try.prog 59 (.bp 2 0) (.v (.int .i64 0)) = some (.bp 2 0) ∧ indexAddrA Try.prog 59 (.bp 2 0) (.v (.int .i64 1)) = some (.bp 2 1) ∧ indexAddrA Try.prog 59 (.bp 2 0) (.v (.int .i64 2)) = some (.bp 2 2) := ⟨by kernel_rfl, by kernel_rfl, by kernel_rfl⟩
theorem ll_3 (A B : List AV) (x y z : Int) (r : Bx) : loadA Try.prog 3 (A :: B :: gC x y z :: r) (.bp 2 0) = some (.v (.int .i64 x)) ∧ loadA Try.prog 3 (A :: B :: gC x y z :: r) (.bp 2 1) = some (.v (.int .i64 y)) ∧ loadA Try.prog 3 (A :: B :: gC x y z :: r) (.bp 2 2) = some (.v (.int .i64 z)) := ⟨by kernel_rfl, by kernel_rfl, by kernel_rfl⟩
theorem sg (A B C D E : List AV) (x y z x' y' z' : Int) (r : Bx) : stA Try.prog 23 (A :: gC x y z :: r) (.bp 1 0) (gV x' y' z') = some (.v undef, A :: gC x' y' z' :: r) ∧ stA Try.prog 23 (A :: B :: gC x y z :: r) (.bp 2 0) (gV x' y' z') = some (.v undef, A :: B :: gC x' y' z' :: r) ∧ stA Try.prog 23 (A :: B :: C :: gC x y z :: r) (.bp 3 0) (gV x' y' z') = some (.v undef, A :: B :: C :: gC x' y' z' :: r) ∧ stA Try.prog 23 (A :: B :: C :: D :: gC x y z :: r) (.bp 4 0) (gV x' y' z') = some (.v undef, A :: B :: C :: D :: gC x' y' z' :: r) ∧ stA Try.prog 23 (A :: B :: C :: D :: E :: gC x y z :: r) (.bp 5 0) (gV x' y' z') = some (.v undef, A :: B :: C :: D :: E :: gC x' y' z' :: r) := ⟨by kernel_rfl, by kernel_rfl, by kernel_rfl, by kernel_rfl, by kernel_rfl⟩
theorem lg5 (A B C D E : List AV) (x y z : Int) (r : Bx) : loadA Try.prog 23 (A :: gC x y z :: r) (.bp 1 0) = some (gV x y z) ∧ loadA Try.prog 23 (A :: B :: gC x y z :: r) (.bp 2 0) = some (gV x y z) ∧ loadA Try.prog 23 (A :: B :: C :: gC x y z :: r) (.bp 3 0) = some (gV x y z) ∧ loadA Try.prog 23 (A :: B :: C :: D :: gC x y z :: r) (.bp 4 0) = some (gV x y z) ∧ loadA Try.prog 23 (A :: B :: C :: D :: E :: gC x y z :: r) (.bp 5 0) = some (gV x y z) := ⟨by kernel_rfl, by kernel_rfl, by kernel_rfl, by kernel_rfl, by kernel_rfl⟩
theorem frz_g5 (bx : Bx) (l : Bool) (a b c : Int) : frz bx l 5 (gV a b c) = gV a b c := rfl
theorem getV_in (p : List UInt8) (hp : p.length = 54) (i : Nat) (hi : i < 3) : getV .u16 p ((4 + 2 * i : Nat) : Int) 2 = .tup [.v (.int .u16 (wd p i : Nat)), .v (.int .i64 0)] := by
  unfold getV
  rw [if_neg (by omega), Int.toNat_natCast]
  rfl
theorem SGet_ev {k : Nat} (hk : 40 ≤ k) (p : List UInt8) (hp : p.length = 54) : cf (evFn cx0 ext0 k) 9 [.agg (u8l p)] = some (getS p) := by
  obtain ⟨m, rfl⟩ : ∃ m, k = m + 1 := ⟨k - 1, by omega⟩
  have st3 := fun x y z n r => st_3 (u8l p) (gC 0 0 0) x y z n r
  unfold cf
  rw [E_super_Get]
  refine ends_cf (P := Try.prog) ?_
  unfold F_super_Get
  have stq := (And.intro (box_agg) (And.intro (al_g) (al_3)))
  repeat first
    | ((with_reducible apply ends_bind); case h => first | (simp only [stp, stq]; first | done | rfl) | rfl)
    | ((with_reducible apply ends_t); case h => first | rfl | (simp only [stp, stq]; done))
    | ((with_reducible apply ends_f); case h => first | rfl | (simp only [stp, stq]; done))
  refine ends_loop (fun k st => ∃ (i : Nat) (z0 : AV) (b0 b1 b2 : List AV), st = ⟨[(11, .v (.int .i64 i)), (4, .bp 2 0), (3, .v (.int .i64 0)), (2, .bp 1 0), (1, .bp 0 0), (0, z0)], [b0, b1, b2]⟩ ∧
    b0 = u8l p ∧ b1 = gC 0 0 0 ∧ b2 = gC (if 0 < i then (wd p 0 : Int) else 0) (if 1 < i then (wd p 1 : Int) else 0) (if 2 < i then (wd p 2 : Int) else 0) ∧ i + k = 3) 3 (by omega) ⟨0, _, _, _, _, rfl, rfl, rfl, rfl, by omega⟩ ?_
  rintro k st ⟨i, z0, b0, b1, b2, rfl, rfl, rfl, rfl, hik⟩
  refine L_super_Get_0_lit ?_
  unfold B_super_Get_0
  rcases k with _ | k
  · have g0 : decide ((i : Int) < 3) = false := decide_eq_false (by omega)
    have stq := (g0)
    repeat first
      | ((with_reducible apply ends_bind); case h => first | (simp only [stp, stq]; first | done | rfl) | rfl)
      | ((with_reducible apply ends_t); case h => first | rfl | (simp only [stp, stq]; done))
      | ((with_reducible apply ends_f); case h => first | rfl | (simp only [stp, stq]; done))
    refine ends_some (.inr (.inl ⟨0, rfl, X_super_Get_0_0_lit ?_⟩))
    unfold X_super_Get_0_0
    obtain rfl : i = 3 := by omega
    simp only [show (0 : Nat) < 3 by omega, show (1 : Nat) < 3 by omega, show (2 : Nat) < 3 by omega, if_true]
    have ia := ia_3
    have l3 := fun r => ll_3 (u8l p) (gC 0 0 0) (wd p 0) (wd p 1) (wd p 2) r
    have bg := b_g (wd p 0) (wd p 1) (wd p 2)
    have s3 := (sg (u8l p) (gC 0 0 0) (gC (wd p 0) (wd p 1) (wd p 2)) [] [] 0 0 0 (wd p 0) (wd p 1) (wd p 2) []).2.2.1
    have l4 := fun r => (lg5 (u8l p) (gC 0 0 0) (gC (wd p 0) (wd p 1) (wd p 2)) [] [] (wd p 0) (wd p 1) (wd p 2) r).2.2.1
    have c1 := SPut_ev (k := m) (by omega) (wd p 0) (wd p 1) (wd p 2)
    have aL := al_a hL (P := Try.prog)
    have zl : (zero 54).length = 54 := rfl
    have lp := fun r => ld_a hL (P := Try.prog) (bx := u8l p :: r) (k := 0) (b := p) rfl hp
    have s1 := fun x y z r => (sg (u8l p) [] [] [] [] 0 0 0 x y z r).1
    unfold supV at c1
    unfold getS
    by_cases h : gOk (wd p 0) (wd p 1) (wd p 2)
    · rw [if_pos h] at c1
      simp only [Int.toNat_natCast] at c1
      have hsl := sb_len (wd p 0) (wd p 1) (wd p 2)
      have z1 : ((0 : Int) != 0) = false := rfl
      obtain ⟨q, hqd⟩ : ∃ q, q = sb (wd p 0) (wd p 1) (wd p 2) := ⟨_, rfl⟩
      rw [← hqd] at c1 hsl
      have s4 := st_a hL (P := Try.prog) (bx := [u8l p, gC 0 0 0, gC (wd p 0) (wd p 1) (wd p 2), gC (wd p 0) (wd p 1) (wd p 2), u8l (zero 54)]) (k := 4) (b := zero 54) (c := q) rfl zl hsl
      simp only [List.set_cons_succ, List.set_cons_zero] at s4
      have l5 := ld_a hL (P := Try.prog) (bx := [u8l p, gC 0 0 0, gC (wd p 0) (wd p 1) (wd p 2), gC (wd p 0) (wd p 1) (wd p 2), u8l q]) (k := 4) (b := q) rfl hsl
      have ne := (eq_a hL (P := Try.prog) (a := q) (b := p) hsl hp).2
      by_cases hq : q = p
      · have g2 : (!(q == p)) = false := by simp [hq]
        have hp' : okG p := ⟨h, hqd.symm.trans hq⟩
        rw [if_pos hp']
        have stq := (And.intro (ia) (And.intro (l3) (And.intro (bg) (And.intro (al_g) (And.intro (s3) (And.intro (l4) (And.intro (frz_g) (And.intro (c1) (And.intro (aL) (And.intro (s4) (And.intro (z1) (And.intro (l5) (And.intro (lp) (And.intro (ne) (And.intro (g2) (s1))))))))))))))))
        repeat first
          | ((with_reducible apply ends_bind); case h => first | (simp only [stp, stq]; first | done | rfl) | rfl)
          | ((with_reducible apply ends_t); case h => first | rfl | (simp only [stp, stq]; done))
          | ((with_reducible apply ends_f); case h => first | rfl | (simp only [stp, stq]; done))
        exact ends_some (retq_ct (lg5 (u8l p) [] [] [] [] _ _ _ _).1 (frz_g5 _ _ _ _ _))
      · have g2 : (!(q == p)) = true := by simpa using hq
        have hn : ¬ okG p := fun x => hq (hqd.trans x.2)
        rw [if_neg hn]
        have stq := (And.intro (ia) (And.intro (l3) (And.intro (bg) (And.intro (al_g) (And.intro (s3) (And.intro (l4) (And.intro (frz_g) (And.intro (c1) (And.intro (aL) (And.intro (s4) (And.intro (z1) (And.intro (l5) (And.intro (lp) (And.intro (ne) (And.intro (g2) (And.intro (z_g) (s1)))))))))))))))))
        repeat first
          | ((with_reducible apply ends_bind); case h => first | (simp only [stp, stq]; first | done | rfl) | rfl)
          | ((with_reducible apply ends_t); case h => first | rfl | (simp only [stp, stq]; done))
          | ((with_reducible apply ends_f); case h => first | rfl | (simp only [stp, stq]; done))
        exact ends_some (retq_ct (lg5 (u8l p) [] [] [] [] _ _ _ _).1 (frz_g5 _ _ _ _ _))
    · rw [if_neg h] at c1
      have z1 : ((2 : Int) != 0) = true := rfl
      have s4 := st_a hL (P := Try.prog) (bx := [u8l p, gC 0 0 0, gC (wd p 0) (wd p 1) (wd p 2), gC (wd p 0) (wd p 1) (wd p 2), u8l (zero 54)]) (k := 4) (b := zero 54) (c := zero 54) rfl zl zl
      simp only [List.set_cons_succ, List.set_cons_zero] at s4
      have hn : ¬ okG p := fun x => h x.1
      rw [if_neg hn]
      have stq := (And.intro (ia) (And.intro (l3) (And.intro (bg) (And.intro (al_g) (And.intro (s3) (And.intro (l4) (And.intro (frz_g) (And.intro (c1) (And.intro (aL) (And.intro (s4) (And.intro (z1) (And.intro (z_g) (s1)))))))))))))
      repeat first
        | ((with_reducible apply ends_bind); case h => first | (simp only [stp, stq]; first | done | rfl) | rfl)
        | ((with_reducible apply ends_t); case h => first | rfl | (simp only [stp, stq]; done))
        | ((with_reducible apply ends_f); case h => first | rfl | (simp only [stp, stq]; done))
      exact ends_some (retq_ct (lg5 (u8l p) [] [] [] [] _ _ _ _).1 (frz_g5 _ _ _ _ _))
  · have g0 : decide ((i : Int) < 3) = true := decide_eq_true (by omega)
    have q0 := fun r => sl_a hL (P := Try.prog) (bx := u8l p :: r) (k := 0) (b := p) rfl hp
    have f0 := fun r => frz_b8 true (bx := u8l p :: r) (b := p) (k := 0) (d := 4) rfl hp.symm
    have e1 : IntKind.i64.wrap (2 * (i : Int)) = ((2 * i : Nat) : Int) := by rw [wrap64]; omega
    have e2 : IntKind.i64.wrap (4 + ((2 * i : Nat) : Int)) = ((4 + 2 * i : Nat) : Int) := by rw [wrap64]; omega
    have c1 := Get16_ev (m := m) (by omega) p true ((4 + 2 * i : Nat) : Int) (by omega) (by omega)
    rw [getV_in p hp i (by omega)] at c1
    have cv := fun bx => cv_n bx (wd p i) (wd_lt p i)
    have ia := ia_3
    have e3 : IntKind.i64.wrap ((i : Int) + 1) = ((i + 1 : Nat) : Int) := by rw [wrap64]; omega
    have hi : i = 0 ∨ i = 1 ∨ i = 2 := by omega
    rcases hi with rfl | rfl | rfl
    · have ia0 : indexAddrA Try.prog 59 (.bp 2 0) (.v (.int .i64 ((0 : Nat) : Int))) = some (.bp 2 0) := ia.1
      have stq := (And.intro (g0) (And.intro (q0) (And.intro (f0) (And.intro (e1) (And.intro (e2) (And.intro (c1) (And.intro (cv) (And.intro (ia0) (And.intro (st3) (e3))))))))))
      repeat first
        | ((with_reducible apply ends_bind); case h => first | (simp only [stp, stq]; first | done | rfl) | rfl)
        | ((with_reducible apply ends_t); case h => first | rfl | (simp only [stp, stq]; done))
        | ((with_reducible apply ends_f); case h => first | rfl | (simp only [stp, stq]; done))
      exact ends_some (.inl ⟨rfl, k, by omega, 1, _, _, _, _, rfl, u8l_keep _ _, rfl, rfl, by omega⟩)
    · have ia0 : indexAddrA Try.prog 59 (.bp 2 0) (.v (.int .i64 ((1 : Nat) : Int))) = some (.bp 2 1) := ia.2.1
      have stq := (And.intro (g0) (And.intro (q0) (And.intro (f0) (And.intro (e1) (And.intro (e2) (And.intro (c1) (And.intro (cv) (And.intro (ia0) (And.intro (st3) (e3))))))))))
      repeat first
        | ((with_reducible apply ends_bind); case h => first | (simp only [stp, stq]; first | done | rfl) | rfl)
        | ((with_reducible apply ends_t); case h => first | rfl | (simp only [stp, stq]; done))
        | ((with_reducible apply ends_f); case h => first | rfl | (simp only [stp, stq]; done))
      exact ends_some (.inl ⟨rfl, k, by omega, 2, _, _, _, _, rfl, u8l_keep _ _, rfl, rfl, by omega⟩)
    · have ia0 : indexAddrA Try.prog 59 (.bp 2 0) (.v (.int .i64 ((2 : Nat) : Int))) = some (.bp 2 2) := ia.2.2
      have stq := (And.intro (g0) (And.intro (q0) (And.intro (f0) (And.intro (e1) (And.intro (e2) (And.intro (c1) (And.intro (cv) (And.intro (ia0) (And.intro (st3) (e3))))))))))
      repeat first
        | ((with_reducible apply ends_bind); case h => first | (simp only [stp, stq]; first | done | rfl) | rfl)
        | ((with_reducible apply ends_t); case h => first | rfl | (simp only [stp, stq]; done))
        | ((with_reducible apply ends_f); case h => first | rfl | (simp only [stp, stq]; done))
      exact ends_some (.inl ⟨rfl, k, by omega, 3, _, _, _, _, rfl, u8l_keep _ _, rfl, rfl, by omega⟩)
theorem rSGet_ev {k : Nat} (hk : 40 ≤ k) (p : List UInt8) (hp : p.length = 54) : cf (evFn cx0 ext0 k) 10 [.agg (u8l p)] = some (getS p) := by
  obtain ⟨m, rfl⟩ : ∃ m, k = m + 1 := ⟨k - 1, by omega⟩
  have q0 := fun r => sl_a hL (P := Try.prog) (bx := u8l p :: r) (k := 0) (b := p) rfl hp
  have f0 := fun r => frz_b8 true (bx := u8l p :: r) (b := p) (k := 0) (d := 4) rfl hp.symm
  have d0 : cf (evFn cx0 ext0 m) 26 [byt true p, .v (.int .i64 4)] = _ := rGet16_ev (m := m) (by omega) p true ((4 + 2 * 0 : Nat) : Int) (by omega) (by omega)
  have d1 : cf (evFn cx0 ext0 m) 26 [byt true p, .v (.int .i64 6)] = _ := rGet16_ev (m := m) (by omega) p true ((4 + 2 * 1 : Nat) : Int) (by omega) (by omega)
  have d2 : cf (evFn cx0 ext0 m) 26 [byt true p, .v (.int .i64 8)] = _ := rGet16_ev (m := m) (by omega) p true ((4 + 2 * 2 : Nat) : Int) (by omega) (by omega)
  rw [getV_in p hp 0 (by omega)] at d0
  rw [getV_in p hp 1 (by omega)] at d1
  rw [getV_in p hp 2 (by omega)] at d2
  have cv0 := fun bx => cv_n bx (wd p 0) (wd_lt p 0)
  have cv1 := fun bx => cv_n bx (wd p 1) (wd_lt p 1)
  have cv2 := fun bx => cv_n bx (wd p 2) (wd_lt p 2)
  have bg := b_g (wd p 0) (wd p 1) (wd p 2)
  have s3 := (sg (u8l p) (gC 0 0 0) [] [] [] 0 0 0 (wd p 0) (wd p 1) (wd p 2) []).2.1
  have l4 := fun r => (lg5 (u8l p) (gC 0 0 0) [] [] [] (wd p 0) (wd p 1) (wd p 2) r).2.1
  have c1 := rSPut_ev (k := m) (by omega) (wd p 0) (wd p 1) (wd p 2)
  have aL := al_a hL (P := Try.prog)
  have zl : (zero 54).length = 54 := rfl
  have lp := fun r => ld_a hL (P := Try.prog) (bx := u8l p :: r) (k := 0) (b := p) rfl hp
  have s1 := fun x y z r => (sg (u8l p) [] [] [] [] 0 0 0 x y z r).1
  unfold supV at c1
  unfold cf
  rw [E_r08_Get]
  refine ends_cf (P := Try.prog) ?_
  unfold F_r08_Get
  unfold getS
  by_cases h : gOk (wd p 0) (wd p 1) (wd p 2)
  · rw [if_pos h] at c1
    simp only [Int.toNat_natCast] at c1
    have hsl := sb_len (wd p 0) (wd p 1) (wd p 2)
    have z1 : ((0 : Int) != 0) = false := rfl
    obtain ⟨q, hqd⟩ : ∃ q, q = sb (wd p 0) (wd p 1) (wd p 2) := ⟨_, rfl⟩
    rw [← hqd] at c1 hsl
    have s4 := st_a hL (P := Try.prog) (bx := [u8l p, gC 0 0 0, gC (wd p 0) (wd p 1) (wd p 2), u8l (zero 54)]) (k := 3) (b := zero 54) (c := q) rfl zl hsl
    simp only [List.set_cons_succ, List.set_cons_zero] at s4
    have l5 := ld_a hL (P := Try.prog) (bx := [u8l p, gC 0 0 0, gC (wd p 0) (wd p 1) (wd p 2), u8l q]) (k := 3) (b := q) rfl hsl
    have ne := (eq_a hL (P := Try.prog) (a := q) (b := p) hsl hp).2
    by_cases hq : q = p
    · have g2 : (!(q == p)) = false := by simp [hq]
      have hp' : okG p := ⟨h, hqd.symm.trans hq⟩
      rw [if_pos hp']
      have stq := (And.intro (box_agg) (And.intro (al_g) (And.intro (q0) (And.intro (f0) (And.intro (d0) (And.intro (d1) (And.intro (d2) (And.intro (cv0) (And.intro (cv1) (And.intro (cv2) (And.intro (bg) (And.intro (s3) (And.intro (l4) (And.intro (frz_g) (And.intro (c1) (And.intro (aL) (And.intro (s4) (And.intro (z1) (And.intro (l5) (And.intro (lp) (And.intro (ne) (And.intro (g2) (s1)))))))))))))))))))))))
      repeat first
        | ((with_reducible apply ends_bind); case h => first | (simp only [stp, stq]; first | done | rfl) | rfl)
        | ((with_reducible apply ends_t); case h => first | rfl | (simp only [stp, stq]; done))
        | ((with_reducible apply ends_f); case h => first | rfl | (simp only [stp, stq]; done))
      exact ends_some (retq_ct (lg5 (u8l p) [] [] [] [] _ _ _ _).1 (frz_g5 _ _ _ _ _))
    · have g2 : (!(q == p)) = true := by simpa using hq
      have hn : ¬ okG p := fun x => hq (hqd.trans x.2)
      rw [if_neg hn]
      have stq := (And.intro (box_agg) (And.intro (al_g) (And.intro (q0) (And.intro (f0) (And.intro (d0) (And.intro (d1) (And.intro (d2) (And.intro (cv0) (And.intro (cv1) (And.intro (cv2) (And.intro (bg) (And.intro (s3) (And.intro (l4) (And.intro (frz_g) (And.intro (c1) (And.intro (aL) (And.intro (s4) (And.intro (z1) (And.intro (l5) (And.intro (lp) (And.intro (ne) (And.intro (g2) (And.intro (z_g) (s1))))))))))))))))))))))))
      repeat first
        | ((with_reducible apply ends_bind); case h => first | (simp only [stp, stq]; first | done | rfl) | rfl)
        | ((with_reducible apply ends_t); case h => first | rfl | (simp only [stp, stq]; done))
        | ((with_reducible apply ends_f); case h => first | rfl | (simp only [stp, stq]; done))
      exact ends_some (retq_ct (lg5 (u8l p) [] [] [] [] _ _ _ _).1 (frz_g5 _ _ _ _ _))
  · rw [if_neg h] at c1
    have z1 : ((2 : Int) != 0) = true := rfl
    have s4 := st_a hL (P := Try.prog) (bx := [u8l p, gC 0 0 0, gC (wd p 0) (wd p 1) (wd p 2), u8l (zero 54)]) (k := 3) (b := zero 54) (c := zero 54) rfl zl zl
    simp only [List.set_cons_succ, List.set_cons_zero] at s4
    have hn : ¬ okG p := fun x => h x.1
    rw [if_neg hn]
    have stq := (And.intro (box_agg) (And.intro (al_g) (And.intro (q0) (And.intro (f0) (And.intro (d0) (And.intro (d1) (And.intro (d2) (And.intro (cv0) (And.intro (cv1) (And.intro (cv2) (And.intro (bg) (And.intro (s3) (And.intro (l4) (And.intro (frz_g) (And.intro (c1) (And.intro (aL) (And.intro (s4) (And.intro (z1) (And.intro (z_g) (s1))))))))))))))))))))
    repeat first
      | ((with_reducible apply ends_bind); case h => first | (simp only [stp, stq]; first | done | rfl) | rfl)
      | ((with_reducible apply ends_t); case h => first | rfl | (simp only [stp, stq]; done))
      | ((with_reducible apply ends_f); case h => first | rfl | (simp only [stp, stq]; done))
    exact ends_some (retq_ct (lg5 (u8l p) [] [] [] [] _ _ _ _).1 (frz_g5 _ _ _ _ _))
def fmtV (a b c : Int) : AV := if gOk a b c then .tup [.agg (u8l (blk 1 1 (sb a.toNat b.toNat c.toNat))), .v (.int .i64 0)] else .tup [.agg (u8l (zero 64)), .v (.int .i64 2)]
theorem Format_ev {k : Nat} (hk : 450 ≤ k) (a b c : Int) : cf (evFn cx0 ext0 k) 11 [gV a b c] = some (fmtV a b c) := by
  obtain ⟨m, rfl⟩ : ∃ m, k = m + 1 := ⟨k - 1, by omega⟩
  have c1 := SPut_ev (k := m) (by omega) a b c
  have aL := al_a hL (P := Try.prog)
  have aB := al_a hB (P := Try.prog)
  have zl : (zero 54).length = 54 := rfl
  have zl6 : (zero 64).length = 64 := rfl
  have lg := fun r => ld_g a b c r
  have zb := z_a hB (P := Try.prog)
  unfold supV at c1
  unfold cf
  rw [E_super_Format]
  refine ends_cf (P := Try.prog) ?_
  unfold F_super_Format
  unfold fmtV
  by_cases h : gOk a b c
  · rw [if_pos h] at c1 ⊢
    have hsl := sb_len a.toNat b.toNat c.toNat
    generalize sb a.toNat b.toNat c.toNat = q at *
    have z1 : ((0 : Int) != 0) = false := rfl
    have s2 := st_a hL (P := Try.prog) (bx := [gC a b c, u8l (zero 64), u8l (zero 54)]) (k := 2) (b := zero 54) (c := q) rfl zl hsl
    have l2 := ld_a hL (P := Try.prog) (bx := [gC a b c, u8l (zero 64), u8l q]) (k := 2) (b := q) rfl hsl
    have c2 : cf (evFn cx0 ext0 m) 27 [.v (.int .i64 1), .v (.int .u32 1), .agg (u8l q)] = some (.tup [.agg (u8l (blk 1 1 q)), .v (.int .i64 0)]) := by
      have := Put_ev (n := m) (by omega) 1 1 (by omega) q hsl
      rw [show putV 1 1 q = _ from if_pos (by unfold mayK; omega)] at this
      exact this
    have hbl := blk_len 1 1 q hsl
    have s3 := st_a hB (P := Try.prog) (bx := [gC a b c, u8l (zero 64), u8l q]) (k := 1) (b := zero 64) (c := blk 1 1 q) rfl zl6 hbl
    simp only [List.set_cons_succ, List.set_cons_zero] at s2 s3
    have stq := (And.intro (box_g) (And.intro (aB) (And.intro (lg) (And.intro (frz_g) (And.intro (c1) (And.intro (aL) (And.intro (s2) (And.intro (z1) (And.intro (l2) (And.intro (frz_agg) (And.intro (c2) (s3))))))))))))
    repeat first
      | ((with_reducible apply ends_bind); case h => first | (simp only [stp, stq]; first | done | rfl) | rfl)
      | ((with_reducible apply ends_t); case h => first | rfl | (simp only [stp, stq]; done))
      | ((with_reducible apply ends_f); case h => first | rfl | (simp only [stp, stq]; done))
    exact ends_some (retq_ct (ld_a hB (b := blk 1 1 q) rfl hbl) (frz_agg _ _ _ _))
  · rw [if_neg h] at c1 ⊢
    have z1 : ((2 : Int) != 0) = true := rfl
    have s2 := st_a hL (P := Try.prog) (bx := [gC a b c, u8l (zero 64), u8l (zero 54)]) (k := 2) (b := zero 54) (c := zero 54) rfl zl zl
    have s3 := st_a hB (P := Try.prog) (bx := [gC a b c, u8l (zero 64), u8l (zero 54)]) (k := 1) (b := zero 64) (c := zero 64) rfl zl6 zl6
    simp only [List.set_cons_succ, List.set_cons_zero] at s2 s3
    have stq := (And.intro (box_g) (And.intro (aB) (And.intro (lg) (And.intro (frz_g) (And.intro (c1) (And.intro (aL) (And.intro (s2) (And.intro (z1) (And.intro (zb) (s3))))))))))
    repeat first
      | ((with_reducible apply ends_bind); case h => first | (simp only [stp, stq]; first | done | rfl) | rfl)
      | ((with_reducible apply ends_t); case h => first | rfl | (simp only [stp, stq]; done))
      | ((with_reducible apply ends_f); case h => first | rfl | (simp only [stp, stq]; done))
    exact ends_some (retq_ct (ld_a hB (b := zero 64) rfl zl6) (frz_agg _ _ _ _))
end Go.Sy
