/-
  Layer 09's law MapsCounts as the reader reads it.
-/
import Derived.Test.YtapjcmloaeaefaaLwMaps3
namespace Go.Sy
open Go.Proofs Num Go.Proofs.Ytapjcmloaeaefaa

theorem Clean_ext (m : Nat) (p : List UInt8) (hp : p.length = 54) (a b c : Int) : cf (evFn cx0 ext0 (m + 1)) 24 [.agg (u8l p), gV a b c] = some (.v (.bool (rclV p a b c))) := by
  have h : ext0 24 [.agg (u8l p), gV a b c] [] = some (.v (.bool (Pre.clV p a b c)), []) := by
    show extD _ _ _ = _
    unfold extD
    rw [if_pos rfl]
    show (byA8 (u8l p)).bind _ = _
    rw [byA8_u8l]
    simp [hp]
  rw [cf_ext h, clV_eq p hp]
  rfl
theorem ends_done (p : List UInt8) (b c : Int) (i : Nat) (hi : i < 432) (hb : bitAt p i = true) (hn : ¬ inP b c i) : ¬ ∀ i, i < 432 → bitAt p i = true → inP b c i := fun h => hn (h i hi hb)
theorem rClean_ev {n : Nat} (hn : 600 ≤ n) (p : List UInt8) (hp : p.length = 54) (a b c : Int) :
    cf (evFn cx0 ext0 n) 25 [.agg (u8l p), gV a b c] = some (.v (.bool (rclV p a b c))) := by
  obtain ⟨m, rfl⟩ : ∃ m, n = m + 4 := ⟨n - 4, by omega⟩
  have c1 : cf (evFn cx0 ext0 (m + 3)) 42 [gV a b c] = _ := rCheck_ev (m + 2) a b c
  have lg := fun A r => lg1 A a b c r
  have q0 := fun r => sl_a hL (P := Try.prog) (bx := u8l p :: r) (k := 0) (b := p) rfl hp
  have f0 := fun r => frz_b8 true (bx := u8l p :: r) (b := p) (k := 0) (d := 4) rfl hp.symm
  have hi := ld_i (.v (.int .i64 a)) (.v (.int .i64 b)) (.v (.int .i64 c)) [] []
  unfold cf
  rw [E_r09_Clean]
  refine ends_cf (P := Try.prog) ?_
  unfold F_r09_Clean
  by_cases hg : gOk a b c
  · rw [show gE a b c = 0 from if_pos hg] at c1
    unfold rclV
    rw [if_pos hg]
    unfold gOk at hg
    have z0 : ((0 : Int) != 0) = false := rfl
    have stq := (And.intro (box_agg) (And.intro (bx_g) (And.intro (lg) (And.intro (frz_g) (And.intro (c1) (z0))))))
    repeat first
      | ((with_reducible apply ends_bind); case h => first | (simp only [stp, stq]; first | done | rfl) | rfl)
      | ((with_reducible apply ends_t); case h => first | rfl | (simp only [stp, stq]; done))
      | ((with_reducible apply ends_f); case h => first | rfl | (simp only [stp, stq]; done))
    refine ends_loop (fun d s => ∃ (j : Nat) (y11 y4 y0 y1 : AV) (d0 d1 : List AV), s = ⟨[(5, .v (.int .i64 j)), (11, y11), (4, y4), (3, .bp 1 0), (2, .bp 0 0), (0, y0), (1, y1)], [d0, d1]⟩ ∧ d0 = u8l p ∧ d1 = [.v (.int .i64 a), .v (.int .i64 b), .v (.int .i64 c)] ∧ j + d = 432 ∧ ∀ i, i < j → bitAt p i = true → inP b c i) 432 (by omega) ⟨0, _, _, _, _, _, _, rfl, rfl, rfl, by omega, by omega⟩ ?_
    rintro d s ⟨j, y11, y4, y0, y1, d0, d1, rfl, rfl, rfl, hd, hall⟩
    refine L_r09_Clean_0_lit ?_
    unfold B_r09_Clean_0
    by_cases hj : j < 432
    · have g0 : decide ((j : Int) < 432) = true := decide_eq_true (by omega)
      have c2 : cf (evFn cx0 ext0 (m + 3)) 35 [byt true p, .v (.int .i64 j)] = _ := rBit_ev (m + 3) (by omega) p true j (by omega) (by omega)
      rw [bitV_ok p j (by omega)] at c2
      have e3 : IntKind.i64.wrap ((j : Int) + 1) = ((j + 1 : Nat) : Int) := by rw [wrap64]; omega
      have w : IntKind.i64.wrap (3 * b) = 3 * b := by rw [wrap64]; omega
      have w2 : IntKind.i64.wrap (128 + 3 * b) = 128 + 3 * b := by rw [wrap64]; omega
      have step : ∀ x : Bool, (x = true → inP b c j) → (bitAt p j = true → x = true) → (∀ i, i < j + 1 → bitAt p i = true → inP b c i) := by
        intro x h1 h2 i hi hb
        by_cases e : i = j
        · subst e
          exact h1 (h2 hb)
        · exact hall i (by omega) hb
      have bad : bitAt p j = true → ¬ inP b c j → allB p b c = false := fun h3 h1 => allB_f (ends_done p b c j hj h3 h1)
      by_cases k1 : (j : Int) < c
      · have g1 : decide ((j : Int) < c) = true := decide_eq_true k1
        have hin : inP b c j := .inl k1
        cases hb : bitAt p j
        · rw [hb] at c2
          have stq := (And.intro (lg) (And.intro (hi) (And.intro (fa_g) (And.intro (c1) (And.intro (g0) (And.intro (g1) (And.intro (q0) (And.intro (f0) (And.intro (c2) (And.intro (n_f) (And.intro (n_t) (e3))))))))))))
          repeat first
            | ((with_reducible apply ends_bind); case h => first | (simp only [stp, stq]; first | done | rfl) | rfl)
            | ((with_reducible apply ends_t); case h => first | rfl | (simp only [stp, stq]; done))
            | ((with_reducible apply ends_f); case h => first | rfl | (simp only [stp, stq]; done))
          exact ends_some (.inl ⟨rfl, d - 1, by omega, j + 1, _, _, _, _, _, _, by first | rfl | (rw [← e3]; rfl), u8l_keep _ _, rfl, by omega, step true (fun _ => hin) (fun _ => rfl)⟩)
        · rw [hb] at c2
          have stq := (And.intro (lg) (And.intro (hi) (And.intro (fa_g) (And.intro (c1) (And.intro (g0) (And.intro (g1) (And.intro (q0) (And.intro (f0) (And.intro (c2) (And.intro (n_f) (And.intro (n_t) (e3))))))))))))
          repeat first
            | ((with_reducible apply ends_bind); case h => first | (simp only [stp, stq]; first | done | rfl) | rfl)
            | ((with_reducible apply ends_t); case h => first | rfl | (simp only [stp, stq]; done))
            | ((with_reducible apply ends_f); case h => first | rfl | (simp only [stp, stq]; done))
          exact ends_some (.inl ⟨rfl, d - 1, by omega, j + 1, _, _, _, _, _, _, by first | rfl | (rw [← e3]; rfl), u8l_keep _ _, rfl, by omega, step true (fun _ => hin) (fun _ => rfl)⟩)
      have g1 : decide ((j : Int) < c) = false := decide_eq_false k1
      by_cases k2 : 128 ≤ j
      · have g2 : decide ((128 : Int) ≤ (j : Int)) = true := decide_eq_true (by omega)
        by_cases k3 : (j : Int) < 128 + 3 * b
        · have g3 : decide ((j : Int) < 128 + 3 * b) = true := decide_eq_true k3
          have hin : inP b c j := .inr ⟨k2, k3⟩
          cases hb : bitAt p j
          · rw [hb] at c2
            have stq := (And.intro (lg) (And.intro (hi) (And.intro (fa_g) (And.intro (c1) (And.intro (g0) (And.intro (g1) (And.intro (g2) (And.intro (g3) (And.intro (w) (And.intro (w2) (And.intro (q0) (And.intro (f0) (And.intro (c2) (And.intro (n_f) (And.intro (n_t) (e3))))))))))))))))
            repeat first
              | ((with_reducible apply ends_bind); case h => first | (simp only [stp, stq]; first | done | rfl) | rfl)
              | ((with_reducible apply ends_t); case h => first | rfl | (simp only [stp, stq]; done))
              | ((with_reducible apply ends_f); case h => first | rfl | (simp only [stp, stq]; done))
            exact ends_some (.inl ⟨rfl, d - 1, by omega, j + 1, _, _, _, _, _, _, by first | rfl | (rw [← e3]; rfl), u8l_keep _ _, rfl, by omega, step true (fun _ => hin) (fun _ => rfl)⟩)
          · rw [hb] at c2
            have stq := (And.intro (lg) (And.intro (hi) (And.intro (fa_g) (And.intro (c1) (And.intro (g0) (And.intro (g1) (And.intro (g2) (And.intro (g3) (And.intro (w) (And.intro (w2) (And.intro (q0) (And.intro (f0) (And.intro (c2) (And.intro (n_f) (And.intro (n_t) (e3))))))))))))))))
            repeat first
              | ((with_reducible apply ends_bind); case h => first | (simp only [stp, stq]; first | done | rfl) | rfl)
              | ((with_reducible apply ends_t); case h => first | rfl | (simp only [stp, stq]; done))
              | ((with_reducible apply ends_f); case h => first | rfl | (simp only [stp, stq]; done))
            exact ends_some (.inl ⟨rfl, d - 1, by omega, j + 1, _, _, _, _, _, _, by first | rfl | (rw [← e3]; rfl), u8l_keep _ _, rfl, by omega, step true (fun _ => hin) (fun _ => rfl)⟩)
        · have g3 : decide ((j : Int) < 128 + 3 * b) = false := decide_eq_false k3
          have hno : ¬ inP b c j := by unfold inP; omega
          cases hb : bitAt p j
          · rw [hb] at c2
            have stq := (And.intro (lg) (And.intro (hi) (And.intro (fa_g) (And.intro (c1) (And.intro (g0) (And.intro (g1) (And.intro (g2) (And.intro (g3) (And.intro (w) (And.intro (w2) (And.intro (q0) (And.intro (f0) (And.intro (c2) (And.intro (n_f) (And.intro (n_t) (e3))))))))))))))))
            repeat first
              | ((with_reducible apply ends_bind); case h => first | (simp only [stp, stq]; first | done | rfl) | rfl)
              | ((with_reducible apply ends_t); case h => first | rfl | (simp only [stp, stq]; done))
              | ((with_reducible apply ends_f); case h => first | rfl | (simp only [stp, stq]; done))
            exact ends_some (.inl ⟨rfl, d - 1, by omega, j + 1, _, _, _, _, _, _, by first | rfl | (rw [← e3]; rfl), u8l_keep _ _, rfl, by omega, step false (fun h => by cases h) (fun h => by rw [hb] at h; cases h)⟩)
          · rw [hb] at c2
            rw [bad hb hno]
            have stq := (And.intro (lg) (And.intro (hi) (And.intro (fa_g) (And.intro (c1) (And.intro (g0) (And.intro (g1) (And.intro (g2) (And.intro (g3) (And.intro (w) (And.intro (w2) (And.intro (q0) (And.intro (f0) (And.intro (c2) (And.intro (n_f) (And.intro (n_t) (e3))))))))))))))))
            repeat first
              | ((with_reducible apply ends_bind); case h => first | (simp only [stp, stq]; first | done | rfl) | rfl)
              | ((with_reducible apply ends_t); case h => first | rfl | (simp only [stp, stq]; done))
              | ((with_reducible apply ends_f); case h => first | rfl | (simp only [stp, stq]; done))
            exact ends_some (.inr (.inr ⟨rfl, .inl rfl, _, rfl, rfl⟩))
      · have g2 : decide ((128 : Int) ≤ (j : Int)) = false := decide_eq_false (by omega)
        have hno : ¬ inP b c j := by unfold inP; omega
        cases hb : bitAt p j
        · rw [hb] at c2
          have stq := (And.intro (lg) (And.intro (hi) (And.intro (fa_g) (And.intro (c1) (And.intro (g0) (And.intro (g1) (And.intro (g2) (And.intro (q0) (And.intro (f0) (And.intro (c2) (And.intro (n_f) (And.intro (n_t) (e3)))))))))))))
          repeat first
            | ((with_reducible apply ends_bind); case h => first | (simp only [stp, stq]; first | done | rfl) | rfl)
            | ((with_reducible apply ends_t); case h => first | rfl | (simp only [stp, stq]; done))
            | ((with_reducible apply ends_f); case h => first | rfl | (simp only [stp, stq]; done))
          exact ends_some (.inl ⟨rfl, d - 1, by omega, j + 1, _, _, _, _, _, _, by first | rfl | (rw [← e3]; rfl), u8l_keep _ _, rfl, by omega, step false (fun h => by cases h) (fun h => by rw [hb] at h; cases h)⟩)
        · rw [hb] at c2
          rw [bad hb hno]
          have stq := (And.intro (lg) (And.intro (hi) (And.intro (fa_g) (And.intro (c1) (And.intro (g0) (And.intro (g1) (And.intro (g2) (And.intro (q0) (And.intro (f0) (And.intro (c2) (And.intro (n_f) (And.intro (n_t) (e3)))))))))))))
          repeat first
            | ((with_reducible apply ends_bind); case h => first | (simp only [stp, stq]; first | done | rfl) | rfl)
            | ((with_reducible apply ends_t); case h => first | rfl | (simp only [stp, stq]; done))
            | ((with_reducible apply ends_f); case h => first | rfl | (simp only [stp, stq]; done))
          exact ends_some (.inr (.inr ⟨rfl, .inl rfl, _, rfl, rfl⟩))
    · have g0 : decide ((j : Int) < 432) = false := decide_eq_false (by omega)
      have hT : allB p b c = true := allB_t fun i h1 h2 => hall i (by omega) h2
      have stq := (And.intro (lg) (And.intro (frz_g) (And.intro (c1) (g0))))
      repeat first
        | ((with_reducible apply ends_bind); case h => first | (simp only [stp, stq]; first | done | rfl) | rfl)
        | ((with_reducible apply ends_t); case h => first | rfl | (simp only [stp, stq]; done))
        | ((with_reducible apply ends_f); case h => first | rfl | (simp only [stp, stq]; done))
      rw [hT]
      exact ends_some (.inr (.inl ⟨0, rfl, X_r09_Clean_0_0_lit (ends_some ⟨.inl rfl, _, rfl, rfl⟩)⟩))
  · rw [show gE a b c = 2 from if_neg hg] at c1
    unfold rclV
    rw [if_neg hg]
    have z0 : ((2 : Int) != 0) = true := rfl
    have stq := (And.intro (box_agg) (And.intro (bx_g) (And.intro (lg) (And.intro (frz_g) (And.intro (c1) (z0))))))
    repeat first
      | ((with_reducible apply ends_bind); case h => first | (simp only [stp, stq]; first | done | rfl) | rfl)
      | ((with_reducible apply ends_t); case h => first | rfl | (simp only [stp, stq]; done))
      | ((with_reducible apply ends_f); case h => first | rfl | (simp only [stp, stq]; done))
    exact ends_some ⟨.inl rfl, _, rfl, rfl⟩
set_option maxRecDepth 100000 in
theorem counts_ev (p : List UInt8) (hp : p.length = 54) (a b c k f : Int) (hf : f < 2 ^ 63) (hf0 : -9223372036854775808 ≤ f) : cf (evFn cx0 ext0 1000) 7 [.agg (u8l p), gV a b c, .v (.int .i64 k), .v (.int .i64 f)] = some (.v (.bool true)) := by
  have hw := works_at 999 (by omega)
  have c1 := MFirst_ev (n := 999) (by omega) p hp a b c k f hf
  have c2 := rMFirst_ev (n := 999) (by omega) p hp a b c k f hf hf0
  have c3 := Free_ev (n := 999) (by omega) p hp a b c
  have c4 := rFree_ev (n := 999) (by omega) p hp a b c
  have c5 : cf (evFn cx0 ext0 999) 24 [.agg (u8l p), gV a b c] = _ := Clean_ext 998 p hp a b c
  have c6 := rClean_ev (n := 999) (by omega) p hp a b c
  have lg := fun r => lg1 (u8l p) a b c r
  have lp := fun r => ld_a hL (P := Try.prog) (bx := u8l p :: r) (k := 0) (b := p) rfl hp
  unfold cf
  rw [E_l09_MapsCounts]
  refine ends_cf (P := Try.prog) ?_
  unfold F_l09_MapsCounts
  have stq := (And.intro (box_agg) (And.intro (bx_g) (And.intro (lg) (And.intro (frz_g) (And.intro (lp) (And.intro (frz_agg) (And.intro (c1) (And.intro (c2) (And.intro (c3) (And.intro (c4) (And.intro (c5) (And.intro (c6) (And.intro (ib) (And.intro (bb) (And.intro (beq_b) (hw))))))))))))))))
  repeat first
    | ((with_reducible apply ends_bind); case h => first | (simp only [stp, stq]; first | done | rfl) | rfl)
    | ((with_reducible apply ends_t); case h => first | rfl | (simp only [stp, stq]; done))
    | ((with_reducible apply ends_f); case h => first | rfl | (simp only [stp, stq]; done))
  exact ends_some ⟨.inl rfl, _, rfl, rfl⟩
end Go.Sy
