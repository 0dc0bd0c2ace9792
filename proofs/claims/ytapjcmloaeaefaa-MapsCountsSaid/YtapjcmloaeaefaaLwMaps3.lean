/-
  Layer 09: the law MapsCounts as the reader reads it.
-/
import Derived.Test.YtapjcmloaeaefaaLwMaps
import Derived.Test.YtapjcmloaeaefaaPfClnS
namespace Go.Sy
open Go.Proofs Num Go.Proofs.Ytapjcmloaeaefaa

/-! ## counts -/
theorem cnt_app (b : List UInt8) : ∀ (k m i : Nat), cnt b i (k + m) = cnt b i k + cnt b (i + k) m
  | 0, m, i => by simp [cnt]
  | k + 1, m, i => by
    rw [show k + 1 + m = (k + m) + 1 by omega, cnt, cnt, cnt_app b k m (i + 1), show i + 1 + k = i + (k + 1) by omega]
    omega
theorem cnt_one (b : List UInt8) (i : Nat) : cnt b i 1 = if bitAt b i then 1 else 0 := by simp [cnt]
theorem cnt_snoc (b : List UInt8) (j : Nat) : cnt b 0 (j + 1) = cnt b 0 j + if bitAt b j then 1 else 0 := by
  rw [cnt_app, cnt_one, Nat.zero_add]
theorem cnt_zero (b : List UInt8) : ∀ (k i : Nat), cnt b i k = 0 ↔ ∀ j, i ≤ j → j < i + k → bitAt b j = false
  | 0, i => by
    constructor
    · intro _ j h1 h2
      omega
    · intro _
      rfl
  | k + 1, i => by
    rw [cnt]
    have ih := cnt_zero b k (i + 1)
    constructor
    · intro h j h1 h2
      by_cases e : j = i
      · subst e
        cases hb : bitAt b j
        · rfl
        · rw [hb] at h
          simp at h
      · exact ih.1 (by omega) j (by omega) (by omega)
    · intro h
      rw [h i (Nat.le_refl _) (by omega), ih.2 fun j h1 h2 => h j (by omega) (by omega)]
      rfl
theorem cnt_sh (b c : List UInt8) (d : Nat) : ∀ (k i : Nat), (∀ j, i ≤ j → j < i + k → bitAt b (d + j) = bitAt c j) → cnt b (d + i) k = cnt c i k
  | 0, i, _ => rfl
  | k + 1, i, h => by
    rw [cnt, cnt, h i (Nat.le_refl _) (by omega), show d + i + 1 = d + (i + 1) by omega, cnt_sh b c d k (i + 1) fun j h1 h2 => h j (by omega) (by omega)]
/-- how many places are not taken -/
def fre (p : List UInt8) (a b c k : Int) : Nat := manyN a b c k - cnt (mp p k) 0 (manyN a b c k)
theorem lim_many (p : List UInt8) (hp : p.length = 54) (a b c k : Int) : lim (mp p k) (manyN a b c k : Nat) = manyN a b c k := by
  have h1 := many_le a b c k
  have h2 := mp_len p hp k
  unfold lim
  rw [h2]
  omega
theorem lg_ip (bx : Bx) (a b c : Int) (f : Bool) : loadA Try.prog 25 bx (.ip [.v (.int .i64 a), .v (.int .i64 b), .v (.int .i64 c)] f) = some (gV a b c) := by kernel_rfl
theorem Free1_ev {n : Nat} (hn : 200 ≤ n) (p : List UInt8) (hp : p.length = 54) (a b c k : Int) :
    cf (evFn cx0 ext0 n) 37 [.v (.int .i64 k), .ip [.v (.int .i64 a), .v (.int .i64 b), .v (.int .i64 c)] true, .ip (u8l p) true] = some (.v (.int .i64 (fre p a b c k))) := by
  obtain ⟨m, rfl⟩ : ∃ m, n = m + 4 := ⟨n - 4, by omega⟩
  have c1 : cf (evFn cx0 ext0 (m + 3)) 26 [gV a b c, .v (.int .i64 k)] = _ := many_ev m a b c k
  have c2 : cf (evFn cx0 ext0 (m + 3)) 28 [.agg (u8l p), .v (.int .i64 k)] = _ := of_ext (m + 2) p hp k
  have hz := sz_le k
  have hl := mp_len p hp k
  have c3 := Count_ev (n := m + 3) (mp p k) false (manyN a b c k : Nat) (by omega) (by omega)
  rw [lim_many p hp] at c3
  have g1 := fun bx => lg_ip bx a b c true
  have g2 := fun bx => ip_ld bx p hp true
  have hcl := cnt_le (mp p k) (manyN a b c k) 0
  have hml := many_le a b c k
  have e1 : IntKind.i64.wrap ((manyN a b c k : Int) - (cnt (mp p k) 0 (manyN a b c k) : Nat)) = (fre p a b c k : Nat) := by
    rw [wrap64]
    unfold fre
    omega
  have fb : ∀ bx, frz bx true 6 (byt false (mp p k)) = byt false (mp p k) := fun bx => rfl
  unfold cf
  rw [E_maps_Free_1]
  refine ends_cf (P := Try.prog) ?_
  unfold F_maps_Free_1
  have stq := (And.intro (g1) (And.intro (g2) (And.intro (frz_g) (And.intro (frz_agg) (And.intro (c1) (And.intro (c2) (And.intro (fb) (And.intro (c3) (e1)))))))))
  repeat first
    | ((with_reducible apply ends_bind); case h => first | (simp only [stp, stq]; first | done | rfl) | rfl)
    | ((with_reducible apply ends_t); case h => first | rfl | (simp only [stp, stq]; done))
    | ((with_reducible apply ends_f); case h => first | rfl | (simp only [stp, stq]; done))
  exact ends_some ⟨.inl rfl, _, rfl, rfl⟩
theorem Free_ev {n : Nat} (hn : 210 ≤ n) (p : List UInt8) (hp : p.length = 54) (a b c : Int) :
    cf (evFn cx0 ext0 n) 22 [.agg (u8l p), gV a b c] = some (.tup [.v (.int .i64 (fre p a b c 0)), .v (.int .i64 (fre p a b c 4))]) := by
  obtain ⟨m, rfl⟩ : ∃ m, n = m + 1 := ⟨n - 1, by omega⟩
  have c1 := Free1_ev (n := m) (by omega) p hp a b c 0
  have c2 := Free1_ev (n := m) (by omega) p hp a b c 4
  have cv : ∀ (bx : Bx) (x y z : AV), callV (evFn cx0 ext0 m) md0 bx [x] (.fn 37 [] [y, z]) = callA (evFn cx0 ext0 m) md0 bx 37 [x, y, z] := fun _ _ _ _ => rfl
  have f0 : ∀ r, frz (u8l p :: r) true 6 (.bp 0 0) = .ip (u8l p) true := fun r => by
    show AV.ip (((u8l p).drop 0).map (frz _ true 5)) true = _
    rw [List.drop_zero, u8l_frz]
  have f1 : ∀ A r, frz (A :: [.v (.int .i64 a), .v (.int .i64 b), .v (.int .i64 c)] :: r) true 6 (.bp 1 0) = .ip [.v (.int .i64 a), .v (.int .i64 b), .v (.int .i64 c)] true := fun A r => rfl
  unfold cf
  rw [E_maps_Free]
  refine ends_cf (P := Try.prog) ?_
  unfold F_maps_Free
  have stq := (And.intro (box_agg) (And.intro (bx_g) (And.intro (cv) (And.intro (f0) (And.intro (f1) (And.intro (c1) (c2)))))))
  repeat first
    | ((with_reducible apply ends_bind); case h => first | (simp only [stp, stq]; first | done | rfl) | rfl)
    | ((with_reducible apply ends_t); case h => first | rfl | (simp only [stp, stq]; done))
    | ((with_reducible apply ends_f); case h => first | rfl | (simp only [stp, stq]; done))
  exact ends_some ⟨.inl rfl, _, rfl, rfl⟩
theorem rfree_ev {n : Nat} (hn : 250 ≤ n) (p : List UInt8) (hp : p.length = 54) (a b c k : Int) :
    cf (evFn cx0 ext0 n) 39 [.agg (u8l p), gV a b c, .v (.int .i64 k)] = some (.v (.int .i64 (fre p a b c k))) := by
  obtain ⟨m, rfl⟩ : ∃ m, n = m + 4 := ⟨n - 4, by omega⟩
  have c1 : cf (evFn cx0 ext0 (m + 3)) 31 [gV a b c, .v (.int .i64 k)] = _ := rmany_ev (m + 1) a b c k
  have hml := many_le a b c k
  have hz := sz_le k
  have lg := fun A r => lg1 A a b c r
  have lp := fun r => ld_a hL (P := Try.prog) (bx := u8l p :: r) (k := 0) (b := p) rfl hp
  unfold cf
  rw [E_r09_free]
  refine ends_cf (P := Try.prog) ?_
  unfold F_r09_free
  have stq := (And.intro (box_agg) (bx_g))
  repeat first
    | ((with_reducible apply ends_bind); case h => first | (simp only [stp, stq]; first | done | rfl) | rfl)
    | ((with_reducible apply ends_t); case h => first | rfl | (simp only [stp, stq]; done))
    | ((with_reducible apply ends_f); case h => first | rfl | (simp only [stp, stq]; done))
  refine ends_loop (fun d s => ∃ (j x : Nat) (y6 y0 y1 : AV) (d0 d1 : List AV), s = ⟨[(8, .v (.int .i64 j)), (7, .v (.int .i64 x)), (6, y6), (4, .bp 1 0), (3, .bp 0 0), (0, y0), (1, y1), (2, .v (.int .i64 k))], [d0, d1]⟩ ∧ d0 = u8l p ∧ d1 = [.v (.int .i64 a), .v (.int .i64 b), .v (.int .i64 c)] ∧ x + cnt (mp p k) 0 j = j ∧ j + d = manyN a b c k) (manyN a b c k) (by omega) ⟨0, 0, _, _, _, _, _, rfl, rfl, rfl, rfl, by omega⟩ ?_
  rintro d s ⟨j, x, y6, y0, y1, d0, d1, rfl, rfl, rfl, hx, hd⟩
  refine L_r09_free_0_lit ?_
  unfold B_r09_free_0
  by_cases hj : j < manyN a b c k
  · have g0 : decide ((j : Int) < (manyN a b c k : Nat)) = true := decide_eq_true (by omega)
    have hok := ok_many hj
    have hbm := bit_mp p k j hok
    have c2 := rTaken_ev (n := m + 3) (by omega) p hp k (j : Int)
    unfold takV at c2
    rw [if_pos hok, hbm, Int.toNat_natCast] at c2
    have e3 : IntKind.i64.wrap ((j : Int) + 1) = ((j + 1 : Nat) : Int) := by rw [wrap64]; omega
    have e4 : IntKind.i64.wrap ((x : Int) + 1) = ((x + 1 : Nat) : Int) := by rw [wrap64]; omega
    have hs := cnt_snoc (mp p k) j
    cases hb : bitAt (mp p k) j
    · rw [hb] at c2 hs
      have stq := (And.intro (lg) (And.intro (frz_g) (And.intro (c1) (And.intro (g0) (And.intro (lp) (And.intro (frz_agg) (And.intro (c2) (And.intro (n_f) (And.intro (e3) (e4))))))))))
      repeat first
        | ((with_reducible apply ends_bind); case h => first | (simp only [stp, stq]; first | done | rfl) | rfl)
        | ((with_reducible apply ends_t); case h => first | rfl | (simp only [stp, stq]; done))
        | ((with_reducible apply ends_f); case h => first | rfl | (simp only [stp, stq]; done))
      exact ends_some (.inl ⟨rfl, d - 1, by omega, j + 1, x + 1, _, _, _, _, _, by first | rfl | (rw [← e3, ← e4]; rfl), u8l_keep _ _, rfl, by rw [hs]; simp; omega, by omega⟩)
    · rw [hb] at c2 hs
      have stq := (And.intro (lg) (And.intro (frz_g) (And.intro (c1) (And.intro (g0) (And.intro (lp) (And.intro (frz_agg) (And.intro (c2) (And.intro (n_t) (e3)))))))))
      repeat first
        | ((with_reducible apply ends_bind); case h => first | (simp only [stp, stq]; first | done | rfl) | rfl)
        | ((with_reducible apply ends_t); case h => first | rfl | (simp only [stp, stq]; done))
        | ((with_reducible apply ends_f); case h => first | rfl | (simp only [stp, stq]; done))
      exact ends_some (.inl ⟨rfl, d - 1, by omega, j + 1, x, _, _, _, _, _, by first | rfl | (rw [← e3]; rfl), u8l_keep _ _, rfl, by rw [hs]; simp; omega, by omega⟩)
  · have g0 : decide ((j : Int) < (manyN a b c k : Nat)) = false := decide_eq_false (by omega)
    have hxx : x = fre p a b c k := by
      have : j = manyN a b c k := by omega
      subst this
      unfold fre
      omega
    have stq := (And.intro (lg) (And.intro (frz_g) (And.intro (c1) (g0))))
    repeat first
      | ((with_reducible apply ends_bind); case h => first | (simp only [stp, stq]; first | done | rfl) | rfl)
      | ((with_reducible apply ends_t); case h => first | rfl | (simp only [stp, stq]; done))
      | ((with_reducible apply ends_f); case h => first | rfl | (simp only [stp, stq]; done))
    rw [← hxx]
    exact ends_some (.inr (.inl ⟨0, rfl, X_r09_free_0_0_lit (ends_some ⟨.inl rfl, _, rfl, rfl⟩)⟩))
theorem rFree_ev {n : Nat} (hn : 260 ≤ n) (p : List UInt8) (hp : p.length = 54) (a b c : Int) :
    cf (evFn cx0 ext0 n) 23 [.agg (u8l p), gV a b c] = some (.tup [.v (.int .i64 (fre p a b c 0)), .v (.int .i64 (fre p a b c 4))]) := by
  obtain ⟨m, rfl⟩ : ∃ m, n = m + 1 := ⟨n - 1, by omega⟩
  have c1 := rfree_ev (n := m) (by omega) p hp a b c 0
  have c2 := rfree_ev (n := m) (by omega) p hp a b c 4
  have lg := fun A r => lg1 A a b c r
  have lp := fun r => ld_a hL (P := Try.prog) (bx := u8l p :: r) (k := 0) (b := p) rfl hp
  unfold cf
  rw [E_r09_Free]
  refine ends_cf (P := Try.prog) ?_
  unfold F_r09_Free
  have stq := (And.intro (box_agg) (And.intro (bx_g) (And.intro (lg) (And.intro (lp) (And.intro (frz_agg) (And.intro (frz_g) (And.intro (c1) (c2))))))))
  repeat first
    | ((with_reducible apply ends_bind); case h => first | (simp only [stp, stq]; first | done | rfl) | rfl)
    | ((with_reducible apply ends_t); case h => first | rfl | (simp only [stp, stq]; done))
    | ((with_reducible apply ends_f); case h => first | rfl | (simp only [stp, stq]; done))
  exact ends_some ⟨.inl rfl, _, rfl, rfl⟩
/-! ## clean -/
def inP (b c : Int) (i : Nat) : Prop := (i : Int) < c ∨ (128 ≤ i ∧ (i : Int) < 128 + 3 * b)
theorem clean_iff (p : List UInt8) (hp : p.length = 54) (a b c : Int) (hg : gOk a b c) : Pre.cA p a b c 0 + Pre.cA p a b c 4 = Pre.cT p ↔ ∀ i, i < 432 → bitAt p i = true → inP b c i := by
  have hm0 : manyN a b c 0 = c.toNat := by unfold manyN; rw [if_pos hg, if_pos rfl]
  have hm4 : manyN a b c 4 = (3 * b).toNat := by unfold manyN; rw [if_pos hg, if_neg (by omega), if_pos rfl]
  have h0 : Pre.cA p a b c 0 = cnt p 0 c.toNat := by
    show cnt (mp p 0) 0 (lim (mp p 0) (manyN a b c 0 : Nat)) = _
    rw [lim_many p hp, hm0]
    have := cnt_sh p (mp p 0) 0 c.toNat 0 fun j h1 h2 => by
      have hok : bitOk 0 (j : Int) := by
        unfold gOk at hg
        unfold bitOk
        omega
      have e := bit_mp p 0 j hok
      have k1 : bitK 0 (j : Int) = j := by
        unfold bitK
        rw [if_pos hok, if_neg (by omega)]
      rw [k1, Int.toNat_natCast] at e
      rw [Nat.zero_add]
      exact e
    exact this.symm
  have h4 : Pre.cA p a b c 4 = cnt p 128 (3 * b).toNat := by
    show cnt (mp p 4) 0 (lim (mp p 4) (manyN a b c 4 : Nat)) = _
    rw [lim_many p hp, hm4]
    have := cnt_sh p (mp p 4) 128 (3 * b).toNat 0 fun j h1 h2 => by
      have hok : bitOk 4 (j : Int) := by
        unfold gOk at hg
        unfold bitOk
        omega
      have e := bit_mp p 4 j hok
      have k1 : bitK 4 (j : Int) = 128 + j := by
        unfold bitK
        rw [if_pos hok, if_pos rfl]
      rw [k1, Int.toNat_natCast, show (128 + (j : Int)).toNat = 128 + j by omega] at e
      exact e
    exact this.symm
  have hT : Pre.cT p = cnt p 0 432 := by
    show cnt p 0 (lim p 432) = _
    rw [show lim p 432 = 432 by unfold lim; rw [hp]; rfl]
  rw [h0, h4, hT]
  unfold gOk at hg
  have s1 := cnt_app p c.toNat (432 - c.toNat) 0
  rw [show c.toNat + (432 - c.toNat) = 432 by omega, Nat.zero_add] at s1
  have s2 := cnt_app p (128 - c.toNat) 304 c.toNat
  rw [show 128 - c.toNat + 304 = 432 - c.toNat by omega, show c.toNat + (128 - c.toNat) = 128 by omega] at s2
  have s3 := cnt_app p (3 * b).toNat (304 - (3 * b).toNat) 128
  rw [show (3 * b).toNat + (304 - (3 * b).toNat) = 304 by omega] at s3
  have z1 := cnt_zero p (128 - c.toNat) c.toNat
  have z2 := cnt_zero p (304 - (3 * b).toNat) (128 + (3 * b).toNat)
  constructor
  · intro h i hi hb
    have q1 := z1.1 (by omega)
    have q2 := z2.1 (by omega)
    unfold inP
    by_cases a1 : (i : Int) < c
    · exact .inl a1
    · by_cases a2 : i < 128
      · have := q1 i (by omega) (by omega)
        rw [hb] at this
        cases this
      · by_cases a3 : (i : Int) < 128 + 3 * b
        · exact .inr ⟨by omega, a3⟩
        · have := q2 i (by omega) (by omega)
          rw [hb] at this
          cases this
  · intro h
    have q1 := z1.2 fun j j1 j2 => by
      cases hb : bitAt p j
      · rfl
      · have := h j (by omega) hb
        unfold inP at this
        omega
    have q2 := z2.2 fun j j1 j2 => by
      cases hb : bitAt p j
      · rfl
      · have := h j (by omega) hb
        unfold inP at this
        omega
    omega
open Classical in
noncomputable def allB (p : List UInt8) (b c : Int) : Bool := @decide (∀ i, i < 432 → bitAt p i = true → inP b c i) (Classical.propDecidable _)
theorem allB_t {p : List UInt8} {b c : Int} (h : ∀ i, i < 432 → bitAt p i = true → inP b c i) : allB p b c = true := by unfold allB; exact @decide_eq_true _ (Classical.propDecidable _) h
theorem allB_f {p : List UInt8} {b c : Int} (h : ¬ ∀ i, i < 432 → bitAt p i = true → inP b c i) : allB p b c = false := by unfold allB; exact @decide_eq_false _ (Classical.propDecidable _) h
noncomputable def rclV (p : List UInt8) (a b c : Int) : Bool := if gOk a b c then allB p b c else false
theorem clV_eq (p : List UInt8) (hp : p.length = 54) (a b c : Int) : Pre.clV p a b c = rclV p a b c := by
  unfold Pre.clV rclV
  by_cases hg : gOk a b c
  · have hg' : Pre.gOk a b c := hg
    rw [if_pos hg, if_pos hg']
    unfold allB
    rw [decide_eq_decide]
    exact clean_iff p hp a b c hg
  · have hg' : ¬ Pre.gOk a b c := hg
    rw [if_neg hg, if_neg hg']
end Go.Sy
