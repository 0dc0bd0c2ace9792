/-
  Layer 8: few, and what the document finds.
-/
import Derived.Test.YtdcngbkcemaklaaPfSup3
namespace Go.Sy
open Go.Proofs Num Crc Seal

theorem app_g {P : Program} {t e : TypeId} {sz by_ : Nat} {z : List AV} (h1 : isSl P t = true) (h2 : elA P t = some e) (h3 : szA P e = some sz) (h4 : byA P e = some by_) (h5 : zcA P e = some z) (hz : z.length = sz ∧ 0 < sz ∧ 0 < by_ ∧ by_ ≤ 2 ^ 12)
    (n0 : Nat) (bx : Bx) (b n : Nat) (l : List AV) (y : AV) (m : Nat) (ys : List AV) (hb : bx[b]? = some l) (h0 : n0 ≤ b) (hl : l.length = n * sz) (hn : n < 2 ^ 32) (hy : readA bx y = some (m, ys)) (hm : ys.length = m * sz) (hm2 : m < 2 ^ 32) :
    appA P n0 bx t (.bsl b 0 n sz) y = some (.bsl b 0 (n + m) sz, AV.keep (· != b), (bx.map fun l => l.map (AV.keep (· != b))).set b ((l ++ ys).map (AV.keep (· != b)))) := by
  unfold appA
  simp only [h1, if_true, h2, h3, h4, h5, hy, Option.bind_some]
  rw [if_pos ⟨hm, hz.2.1, hz.1, hz.2.2.1, hz.2.2.2, hm2⟩]
  simp only [hb, Option.bind_some]
  rw [if_pos ⟨trivial, h0, hl, .inl trivial, hn⟩]
  simp
theorem by_bl : byA Try.prog 32 = some 64 := by kernel_rfl
theorem zc_bl : zcA Try.prog 32 = some (u8l (List.replicate 64 0)) := by kernel_rfl
theorem bs0_bl (bx : Bx) : buildSliceA Try.prog bx 39 0 [] = some (.bsl bx.length 0 0 64, bx ++ [[]]) := by kernel_rfl
def fewN (n : Nat) : Nat := min n 60
theorem few_gen {m : Nat} (f : Bool) (n : Nat) (b : List UInt8) (hb : b.length = n * 64) {Q : Ex → S → Prop} (hQ : ∀ env : Env, get env 2 = .bsl 1 0 (fewN n) 64 → Q .ret ⟨env, [[], u8l (b.take (fewN n * 64))]⟩) : Ends (F_l08_few (evFn cx0 ext0 m) m ([] : Bx).length (bll f n b) []) Q := by
  have mn : minL false (.v (.int .i64 n)) [.v (.int .i64 60)] = some (.v (.int .i64 (fewN n : Nat))) := by
    rw [min_v]
    unfold fewN
    congr 3
    omega
  have hk : fewN n ≤ n := by unfold fewN; omega
  have hk6 : fewN n ≤ 60 := by unfold fewN; omega
  have s1 : ∀ bx, sliceA Try.prog bx 39 (bll f n b) none (some (.v (.int .i64 (fewN n : Nat)))) none = some (.sl (fewN n) (u8l (b.take (fewN n * 64))) f) := by
    intro bx
    unfold sliceA
    simp only [el_bl.1, if_true, el_bl.2.1, el_bl.2.2, Option.bind_some, hiA, loA, bndA]
    rw [if_pos ⟨by omega, by omega⟩]
    simp [u8l_take]
  have a1 : appA Try.prog 0 [[], []] 39 (.bsl 1 0 0 64) (.sl (fewN n) (u8l (b.take (fewN n * 64))) f) = some (.bsl 1 0 (fewN n) 64, AV.keep (· != 1), [[], u8l (b.take (fewN n * 64))]) := by
    have := app_g (P := Try.prog) el_bl.1 el_bl.2.1 el_bl.2.2 by_bl zc_bl ⟨by simp [u8l_len], by omega, by omega, by omega⟩ 0 [[], []] 1 0 [] (.sl (fewN n) (u8l (b.take (fewN n * 64))) f) (fewN n) (u8l (b.take (fewN n * 64))) rfl (by omega) rfl (by omega) rfl (by rw [u8l_len, List.length_take]; omega) (by omega)
    rw [this, Nat.zero_add, List.nil_append, u8l_keep]
    rfl
  generalize fewN n = k at *
  generalize b.take (k * 64) = c at *
  unfold F_l08_few
  have stq := (And.intro (bs0_bl) (And.intro (ln_bl) (And.intro (mn) (And.intro (s1) (a1)))))
  repeat first
    | ((with_reducible apply ends_bind); case h => first | (simp only [stp, stq]; first | done | rfl) | rfl)
    | ((with_reducible apply ends_t); case h => first | rfl | (simp only [stp, stq]; done))
    | ((with_reducible apply ends_f); case h => first | rfl | (simp only [stp, stq]; done))
  exact ends_some (hQ _ rfl)
theorem few_ev {k : Nat} (hk : 5 ≤ k) (f : Bool) (n : Nat) (b : List UInt8) (hb : b.length = n * 64) : cf (evFn cx0 ext0 k) 14 [bll f n b] = some (bll false (fewN n) (b.take (fewN n * 64))) := by
  obtain ⟨m, rfl⟩ : ∃ m, k = m + 1 := ⟨k - 1, by omega⟩
  unfold cf
  rw [E_l08_few]
  refine ends_cf (P := Try.prog) (few_gen f n b hb fun env h => ⟨.inl rfl, [.bsl 1 0 (fewN n) 64], by rw [← h]; rfl, ?_⟩)
  show AV.sl (fewN n) ((((u8l (b.take (fewN n * 64))).drop 0).take (fewN n * 64)).map (frz _ false 5)) false = _
  rw [List.drop_zero, List.take_of_length_le (l := u8l (b.take (fewN n * 64))) (by rw [u8l_len, List.length_take]; omega), u8l_frz]
theorem few_raw {k : Nat} (hk : 5 ≤ k) (f : Bool) (n : Nat) (b : List UInt8) (hb : b.length = n * 64) : evFn cx0 ext0 k 14 [bll f n b] [] = some (.bsl 1 0 (fewN n) 64, [[], u8l (b.take (fewN n * 64))]) := by
  obtain ⟨m, rfl⟩ : ∃ m, k = m + 1 := ⟨k - 1, by omega⟩
  rw [E_l08_few]
  exact ends_fin (P := Try.prog) (few_gen f n b hb fun env h => ⟨.inl rfl, [.bsl 1 0 (fewN n) 64], by rw [← h]; rfl, rfl⟩)
theorem few_len {n : Nat} {b : List UInt8} (hb : b.length = n * 64) : (b.take (fewN n * 64)).length = fewN n * 64 := by
  rw [List.length_take]
  unfold fewN
  omega

def oneV (x : List UInt8) (n : Int) : AV := if okS x ∧ okG (ld x) then .tup [gV (w0 x) (w1 x) (w2 x), .v (.bool (gTot (w0 x) (w1 x) (w2 x) == n))] else .tup [gV 0 0 0, .v (.bool false)]
theorem one_ev {k : Nat} (hk : 480 ≤ k) (x : List UInt8) (hx : x.length = 64) (n : Int) : cf (evFn cx0 ext0 k) 32 [.agg (u8l x), .v (.int .i64 n)] = some (oneV x n) := by
  obtain ⟨m, rfl⟩ : ∃ m, k = m + 4 := ⟨k - 4, by omega⟩
  have aL := al_a hL (P := Try.prog)
  have lL := lds hL (P := Try.prog)
  have lB := lds hB (P := Try.prog)
  have sL := sts hL (P := Try.prog)
  have zl : (zero 54).length = 54 := rfl
  have zl' : (List.replicate 54 (0 : UInt8)).length = 54 := rfl
  have c1 : cf (evFn cx0 ext0 (m + 3)) 19 [.v (.int .i64 1), .agg (u8l x)] = _ := rGet_ev (by omega) 1 x hx
  rw [got1] at c1
  unfold cf
  rw [E_r08_one]
  refine ends_cf (P := Try.prog) ?_
  unfold F_r08_one oneV
  by_cases h1 : okS x
  · rw [if_pos h1] at c1
    have hl := ld_len hx
    have c2 := rSGet_ev (k := m + 3) (by omega) (ld x) hl
    unfold getS at c2
    have z0 : ((0 : Int) != 0) = false := rfl
    by_cases h2 : okG (ld x)
    · rw [if_pos h2] at c2
      rw [if_pos ⟨h1, h2⟩]
      have c3 : cf (evFn cx0 ext0 (m + 3)) 46 [gV (w0 x) (w1 x) (w2 x)] = _ := rTotal_ev m (w0 x) (w1 x) (w2 x)
      have z1 : ((0 : Int) == 0) = true := rfl
      have stq := (And.intro (box_agg) (And.intro (al_g) (And.intro (hx) (And.intro (hl) (And.intro (zl') (And.intro (lB) (And.intro (frz_agg) (And.intro (c1) (And.intro (aL) (And.intro (sL) (And.intro (lL) (And.intro (z0) (And.intro (c2) (And.intro (sg3) (And.intro (lg3) (And.intro (z1) (And.intro (frz_g) (And.intro (c3) (sg1)))))))))))))))))))
      repeat first
        | ((with_reducible apply ends_bind); case h => first | (simp only [stp, stq]; first | done | rfl) | rfl)
        | ((with_reducible apply ends_t); case h => first | rfl | (simp only [stp, stq]; done))
        | ((with_reducible apply ends_f); case h => first | rfl | (simp only [stp, stq]; done))
      exact ends_some (retq_ct (lg1' _ _ _ _ _) (frz_g5 _ _ _ _ _))
    · rw [if_neg h2] at c2
      rw [if_neg (fun h => h2 h.2)]
      have z1 : ((22 : Int) == 0) = false := rfl
      have stq := (And.intro (box_agg) (And.intro (al_g) (And.intro (hx) (And.intro (hl) (And.intro (zl') (And.intro (lB) (And.intro (frz_agg) (And.intro (c1) (And.intro (aL) (And.intro (sL) (And.intro (lL) (And.intro (z0) (And.intro (c2) (And.intro (sg3) (And.intro (lg3) (And.intro (z1) (And.intro (frz_g) (sg1))))))))))))))))))
      repeat first
        | ((with_reducible apply ends_bind); case h => first | (simp only [stp, stq]; first | done | rfl) | rfl)
        | ((with_reducible apply ends_t); case h => first | rfl | (simp only [stp, stq]; done))
        | ((with_reducible apply ends_f); case h => first | rfl | (simp only [stp, stq]; done))
      exact ends_some (retq_ct (lg1' _ _ _ _ _) (frz_g5 _ _ _ _ _))
  · rw [if_neg h1] at c1
    rw [if_neg (fun h => h1 h.1)]
    have z0 : ((21 : Int) != 0) = true := rfl
    have stq := (And.intro (box_agg) (And.intro (al_g) (And.intro (hx) (And.intro (zl) (And.intro (zl') (And.intro (lB) (And.intro (frz_agg) (And.intro (c1) (And.intro (aL) (And.intro (sL) (And.intro (z0) (And.intro (z_g) (sg1)))))))))))))
    repeat first
      | ((with_reducible apply ends_bind); case h => first | (simp only [stp, stq]; first | done | rfl) | rfl)
      | ((with_reducible apply ends_t); case h => first | rfl | (simp only [stp, stq]; done))
      | ((with_reducible apply ends_f); case h => first | rfl | (simp only [stp, stq]; done))
    exact ends_some (retq_ct (lg1' _ _ _ _ _) (frz_g5 _ _ _ _ _))
theorem oneV_cases (x : List UInt8) (n : Nat) : ∃ p q r : Int, oneV x n = .tup [gV p q r, .v (.bool (decide (hitS x n)))] ∧ (hitS x n → p = w0 x ∧ q = w1 x ∧ r = w2 x) := by
  unfold oneV
  by_cases h : okS x ∧ okG (ld x)
  · rw [if_pos h]
    refine ⟨_, _, _, ?_, fun _ => ⟨rfl, rfl, rfl⟩⟩
    congr 4
    by_cases h3 : gTot (w0 x) (w1 x) (w2 x) = n
    · rw [decide_eq_true (show hitS x n from ⟨h.1, h.2, h3⟩)]
      simpa using h3
    · rw [decide_eq_false (fun hh : hitS x n => h3 hh.2.2)]
      simpa using h3
  · rw [if_neg h]
    refine ⟨0, 0, 0, ?_, fun hh => (h ⟨hh.1, hh.2.1⟩).elim⟩
    rw [decide_eq_false (fun hh : hitS x n => h ⟨hh.1, hh.2.1⟩)]
theorem rFind_ev {k : Nat} (hk : 500 ≤ k) (f : Bool) (n : Nat) (b : List UInt8) (hb : b.length = n * 64) : cf (evFn cx0 ext0 k) 16 [bll f n b] = some (fndV b n) := by
  obtain ⟨m, rfl⟩ : ∃ m, k = m + 4 := ⟨k - 4, by omega⟩
  have lz := lg0
  have sz := sg0
  unfold cf
  rw [E_r08_Find]
  refine ends_cf (P := Try.prog) ?_
  unfold F_r08_Find
  have stq := (al_g)
  repeat first
    | ((with_reducible apply ends_bind); case h => first | (simp only [stp, stq]; first | done | rfl) | rfl)
    | ((with_reducible apply ends_t); case h => first | rfl | (simp only [stp, stq]; done))
    | ((with_reducible apply ends_f); case h => first | rfl | (simp only [stp, stq]; done))
  refine ends_loop (fun d s => ∃ (j : Nat) (y4 y3 : AV) (d0 : List AV), s = ⟨[(5, .v (.int .i64 j)), (4, y4), (3, y3), (2, .bp 0 0), (0, bll f n b)], [d0]⟩ ∧ d0 = gC 0 0 0 ∧ j + d = 2 ∧ ∀ i, i < j → 2 ≤ n ∧ ¬ hitS (bk b i) n) 2 (by omega) ⟨0, _, _, _, rfl, rfl, by omega, by omega⟩ ?_
  rintro d s ⟨j, y4, y3, d0, rfl, rfl, hd, hall⟩
  refine L_r08_Find_0_lit ?_
  unfold B_r08_Find_0
  have out : ∀ y14 y5 y0 : AV, (2 ≤ n → j = 2) → Ends (X_r08_Find_0_0 (evFn cx0 ext0 (m + 3)) (m + 3) ([] : Bx).length y14 y5 y4 y3 (.bp 0 0) y0 [gC 0 0 0]) (RetQ Try.prog [.cell 2 23, .tmp 3, .tmp 4] (fndV b n)) := by
    intro y14 y5 y0 hj
    have hfe : fndV b n = .tup [gV 0 0 0, .v (.int .i64 0), .v (.int .i64 22)] := by
      unfold fndV fnd
      by_cases hn : 2 ≤ n
      · have := hj hn
        rw [if_pos hn, if_neg (hall 0 (by omega)).2, if_neg (hall 1 (by omega)).2]
      · rw [if_neg hn]
    rw [hfe]
    unfold X_r08_Find_0_0
    have stq := (And.intro (z_g) (sz))
    repeat first
      | ((with_reducible apply ends_bind); case h => first | (simp only [stp, stq]; first | done | rfl) | rfl)
      | ((with_reducible apply ends_t); case h => first | rfl | (simp only [stp, stq]; done))
      | ((with_reducible apply ends_f); case h => first | rfl | (simp only [stp, stq]; done))
    exact ends_some (retq_ctt (lz _ _ _ _) (frz_g5 _ _ _ _ _))
  by_cases hj : j < 2
  · have g1 : decide ((j : Int) < 2) = true := decide_eq_true (by omega)
    by_cases hn : 2 ≤ n
    · have g2 : decide ((1 : Int) < (n : Int)) = true := decide_eq_true (by omega)
      have i1 := ix_bl f n b hb .i64 j (by omega)
      have l1 := fun bx => ld_bl bx f b j n hb (by omega)
      have hx := bk_len (b := b) (i := j) (n := n) (by omega) hb
      have hfe : hitS (bk b j) n → fndV b n = .tup [gV (w0 (bk b j)) (w1 (bk b j)) (w2 (bk b j)), .v (.int .i64 j), .v (.int .i64 0)] := by
        intro hh
        unfold fndV fnd
        rw [if_pos hn]
        rcases (show j = 0 ∨ j = 1 by omega) with rfl | rfl
        · rw [if_pos hh]
        · rw [if_neg (hall 0 (by omega)).2, if_pos hh]
      have e3 : IntKind.i64.wrap ((j : Int) + 1) = ((j + 1 : Nat) : Int) := by rw [wrap64]; omega
      have next : ¬ hitS (bk b j) n → ∀ i, i < j + 1 → 2 ≤ n ∧ ¬ hitS (bk b i) n := fun h i hi => by
        by_cases e : i = j
        · subst e; exact ⟨hn, h⟩
        · exact hall i (by omega)
      generalize bk b j = x at *
      have c1 := one_ev (k := m + 3) (by omega) x hx n
      obtain ⟨p, q, r, he, hpq⟩ := oneV_cases x n
      rw [he] at c1
      by_cases hh : hitS x n
      · obtain ⟨rfl, rfl, rfl⟩ := hpq hh
        rw [decide_eq_true hh] at c1
        rw [hfe hh]
        have stq := (And.intro (g1) (And.intro (ln_bl) (And.intro (g2) (And.intro (i1) (And.intro (l1) (And.intro (frz_agg) (And.intro (c1) (And.intro (al_g) (And.intro (sg1) (And.intro (lg1') (sz)))))))))))
        repeat first
          | ((with_reducible apply ends_bind); case h => first | (simp only [stp, stq]; first | done | rfl) | rfl)
          | ((with_reducible apply ends_t); case h => first | rfl | (simp only [stp, stq]; done))
          | ((with_reducible apply ends_f); case h => first | rfl | (simp only [stp, stq]; done))
        exact ends_some (.inr (.inr ⟨rfl, retq_ctt (lz _ _ _ _) (frz_g5 _ _ _ _ _)⟩))
      · rw [decide_eq_false hh] at c1
        have stq := (And.intro (g1) (And.intro (ln_bl) (And.intro (g2) (And.intro (i1) (And.intro (l1) (And.intro (frz_agg) (And.intro (c1) (And.intro (al_g) (And.intro (sg1) (And.intro (lg1') (And.intro (sz) (e3))))))))))))
        repeat first
          | ((with_reducible apply ends_bind); case h => first | (simp only [stp, stq]; first | done | rfl) | rfl)
          | ((with_reducible apply ends_t); case h => first | rfl | (simp only [stp, stq]; done))
          | ((with_reducible apply ends_f); case h => first | rfl | (simp only [stp, stq]; done))
        exact ends_some (.inl ⟨rfl, d - 1, by omega, j + 1, _, _, _, by first | rfl | (rw [← e3]; rfl), rfl, by omega, next hh⟩)
    · have g2 : decide ((1 : Int) < (n : Int)) = false := decide_eq_false (by omega)
      have stq := (And.intro (g1) (And.intro (ln_bl) (g2)))
      repeat first
        | ((with_reducible apply ends_bind); case h => first | (simp only [stp, stq]; first | done | rfl) | rfl)
        | ((with_reducible apply ends_t); case h => first | rfl | (simp only [stp, stq]; done))
        | ((with_reducible apply ends_f); case h => first | rfl | (simp only [stp, stq]; done))
      exact ends_some (.inr (.inl ⟨0, rfl, X_r08_Find_0_0_lit (out _ _ _ (fun h => (hn h).elim))⟩))
  · have g1 : decide ((j : Int) < 2) = false := decide_eq_false (by omega)
    have stq := (g1)
    repeat first
      | ((with_reducible apply ends_bind); case h => first | (simp only [stp, stq]; first | done | rfl) | rfl)
      | ((with_reducible apply ends_t); case h => first | rfl | (simp only [stp, stq]; done))
      | ((with_reducible apply ends_f); case h => first | rfl | (simp only [stp, stq]; done))
    exact ends_some (.inr (.inl ⟨0, rfl, X_r08_Find_0_0_lit (out _ _ _ (fun _ => by omega))⟩))
end Go.Sy
