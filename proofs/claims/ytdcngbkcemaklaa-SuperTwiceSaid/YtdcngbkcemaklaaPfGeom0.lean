/-
  What the functions of shapes compute, as the reader reads them.
-/
import Derived.Test.YtdcngbkcemaklaaPfBase
namespace Go.Sy
open Go.Proofs

/-- a shape -/
abbrev gV (a b c : Int) : AV := .agg [.v (.int .i64 a), .v (.int .i64 b), .v (.int .i64 c)]
/-- may it be? -/
def gOk (a b c : Int) : Prop := 1 ≤ a ∧ a ≤ 8 ∧ 1 ≤ b ∧ b ≤ 8 ∧ 4 ≤ c ∧ c ≤ 128
instance (a b c : Int) : Decidable (gOk a b c) := by unfold gOk; infer_instance
/-- the number of an error -/
def gE (a b c : Int) : Int := if gOk a b c then 0 else 2

theorem frz_g (bx : Bx) (l : Bool) (a b c : Int) : frz bx l 6 (gV a b c) = gV a b c := rfl
theorem box_g (bx : Bx) (a b c : Int) : boxA bx (gV a b c) = some (.bp bx.length 0, bx ++ [[.v (.int .i64 a), .v (.int .i64 b), .v (.int .i64 c)]]) := by kernel_rfl
theorem ld_g (x y z : Int) (r : Bx) : loadA Try.prog 23 ([.v (.int .i64 x), .v (.int .i64 y), .v (.int .i64 z)] :: r) (.bp 0 0) = some (gV x y z) := by kernel_rfl
theorem fa_g : fieldAddrA Try.prog 23 (.bp 0 0) 0 = some (.bp 0 0) ∧ fieldAddrA Try.prog 23 (.bp 0 0) 1 = some (.bp 0 1) ∧ fieldAddrA Try.prog 23 (.bp 0 0) 2 = some (.bp 0 2) := ⟨by kernel_rfl, by kernel_rfl, by kernel_rfl⟩
theorem ld_i (x y z : AV) (l : List AV) (r : Bx) : loadA Try.prog 3 ((x :: l) :: r) (.bp 0 0) = some x ∧ loadA Try.prog 3 ((x :: y :: l) :: r) (.bp 0 1) = some y ∧ loadA Try.prog 3 ((x :: y :: z :: l) :: r) (.bp 0 2) = some z := ⟨by kernel_rfl, by kernel_rfl, by kernel_rfl⟩
theorem z_g : buildA Try.prog 23 [] = some (gV 0 0 0) := by kernel_rfl
theorem eq_g (a b c d e f : Int) : binA Try.prog .eql 23 (gV a b c) (gV d e f) = some (.v (.bool (a == d && (b == e && (c == f && true))))) := by kernel_rfl

theorem in_ev (m : Nat) (x a b : Int) : cf (evFn cx0 ext0 (m + 1)) 37 [.v (.int .i64 x), .v (.int .i64 a), .v (.int .i64 b)] = some (.v (.bool (decide (a ≤ x ∧ x ≤ b)))) := by
  unfold cf
  rw [E_geom_Check_1]
  refine ends_cf (P := Try.prog) ?_
  unfold F_geom_Check_1
  by_cases h1 : a ≤ x
  · have g1 : decide (a ≤ x) = true := decide_eq_true h1
    have g2 : decide (a ≤ x ∧ x ≤ b) = decide (x ≤ b) := by simp [h1]
    rw [g2]
    have stq := (g1)
    repeat first
      | ((with_reducible apply ends_bind); case h => first | (simp only [stp, stq]; first | done | rfl) | rfl)
      | ((with_reducible apply ends_t); case h => first | rfl | (simp only [stp, stq]; done))
      | ((with_reducible apply ends_f); case h => first | rfl | (simp only [stp, stq]; done))
    exact ends_some ⟨.inl rfl, _, rfl, by cases decide (x ≤ b) <;> rfl⟩
  · have g1 : decide (a ≤ x) = false := decide_eq_false h1
    have g2 : decide (a ≤ x ∧ x ≤ b) = false := by simp [h1]
    rw [g2]
    have stq := (g1)
    repeat first
      | ((with_reducible apply ends_bind); case h => first | (simp only [stp, stq]; first | done | rfl) | rfl)
      | ((with_reducible apply ends_t); case h => first | rfl | (simp only [stp, stq]; done))
      | ((with_reducible apply ends_f); case h => first | rfl | (simp only [stp, stq]; done))
    exact ends_some ⟨.inl rfl, _, rfl, rfl⟩

theorem Check_ev (m : Nat) (a b c : Int) : cf (evFn cx0 ext0 (m + 2)) 21 [gV a b c] = some (.v (.int .i64 (gE a b c))) := by
  have hb := box_g [] a b c
  have hl := ld_g a b c []
  have i1 := in_ev m a 1 8
  have i2 := in_ev m b 1 8
  have i3 := in_ev m c 4 128
  have n1 : (!true) = false := rfl
  have n2 : (!false) = true := rfl
  have hi := ld_i (.v (.int .i64 a)) (.v (.int .i64 b)) (.v (.int .i64 c)) [] []
  have hi0 := ld_i (.v (.int .i64 a)) (.v (.int .i64 b)) (.v (.int .i64 c)) [.v (.int .i64 b), .v (.int .i64 c)] []
  have hi1 := ld_i (.v (.int .i64 a)) (.v (.int .i64 b)) (.v (.int .i64 c)) [.v (.int .i64 c)] []
  unfold cf
  rw [E_geom_Check]
  refine ends_cf (P := Try.prog) ?_
  unfold F_geom_Check
  by_cases h1 : 1 ≤ a ∧ a ≤ 8
  · have g0 : (a == 0 && (b == 0 && (c == 0 && true))) = false := by
      have : (a == 0) = false := by simp; omega
      rw [this]; rfl
    rw [decide_eq_true h1] at i1
    by_cases h2 : 1 ≤ b ∧ b ≤ 8
    · rw [decide_eq_true h2] at i2
      by_cases h3 : 4 ≤ c ∧ c ≤ 128
      · rw [decide_eq_true h3] at i3
        rw [show gE a b c = 0 from if_pos (by unfold gOk; omega)]
        have stq := (And.intro (hb) (And.intro (hl) (And.intro (z_g) (And.intro (eq_g) (And.intro (g0) (And.intro (fa_g) (And.intro (hi) (And.intro (hi0) (And.intro (hi1) (And.intro (i1) (And.intro (i2) (And.intro (i3) (And.intro (n1) (n2))))))))))))))
        repeat first
          | ((with_reducible apply ends_bind); case h => first | (simp only [stp, stq]; first | done | rfl) | rfl)
          | ((with_reducible apply ends_t); case h => first | rfl | (simp only [stp, stq]; done))
          | ((with_reducible apply ends_f); case h => first | rfl | (simp only [stp, stq]; done))
        exact ends_some ⟨.inl rfl, _, rfl, rfl⟩
      · rw [decide_eq_false h3] at i3
        rw [show gE a b c = 2 from if_neg (by unfold gOk; omega)]
        have stq := (And.intro (hb) (And.intro (hl) (And.intro (z_g) (And.intro (eq_g) (And.intro (g0) (And.intro (fa_g) (And.intro (hi) (And.intro (hi0) (And.intro (hi1) (And.intro (i1) (And.intro (i2) (And.intro (i3) (And.intro (n1) (n2))))))))))))))
        repeat first
          | ((with_reducible apply ends_bind); case h => first | (simp only [stp, stq]; first | done | rfl) | rfl)
          | ((with_reducible apply ends_t); case h => first | rfl | (simp only [stp, stq]; done))
          | ((with_reducible apply ends_f); case h => first | rfl | (simp only [stp, stq]; done))
        exact ends_some ⟨.inl rfl, _, rfl, rfl⟩
    · rw [decide_eq_false h2] at i2
      rw [show gE a b c = 2 from if_neg (by unfold gOk; omega)]
      have stq := (And.intro (hb) (And.intro (hl) (And.intro (z_g) (And.intro (eq_g) (And.intro (g0) (And.intro (fa_g) (And.intro (hi) (And.intro (hi0) (And.intro (hi1) (And.intro (i1) (And.intro (i2) (And.intro (i3) (And.intro (n1) (n2))))))))))))))
      repeat first
        | ((with_reducible apply ends_bind); case h => first | (simp only [stp, stq]; first | done | rfl) | rfl)
        | ((with_reducible apply ends_t); case h => first | rfl | (simp only [stp, stq]; done))
        | ((with_reducible apply ends_f); case h => first | rfl | (simp only [stp, stq]; done))
      exact ends_some ⟨.inl rfl, _, rfl, rfl⟩
  · rw [decide_eq_false h1] at i1
    rw [show gE a b c = 2 from if_neg (by unfold gOk; omega)]
    cases g0 : (a == 0 && (b == 0 && (c == 0 && true)))
    · skip
      have stq := (And.intro (hb) (And.intro (hl) (And.intro (z_g) (And.intro (eq_g) (And.intro (g0) (And.intro (fa_g) (And.intro (hi) (And.intro (hi0) (And.intro (hi1) (And.intro (i1) (And.intro (n1) (n2))))))))))))
      repeat first
        | ((with_reducible apply ends_bind); case h => first | (simp only [stp, stq]; first | done | rfl) | rfl)
        | ((with_reducible apply ends_t); case h => first | rfl | (simp only [stp, stq]; done))
        | ((with_reducible apply ends_f); case h => first | rfl | (simp only [stp, stq]; done))
      exact ends_some ⟨.inl rfl, _, rfl, rfl⟩
    · skip
      have stq := (And.intro (hb) (And.intro (hl) (And.intro (z_g) (And.intro (eq_g) (And.intro (g0) (And.intro (fa_g) (And.intro (hi) (And.intro (hi0) (And.intro (hi1) (And.intro (i1) (And.intro (n1) (n2))))))))))))
      repeat first
        | ((with_reducible apply ends_bind); case h => first | (simp only [stp, stq]; first | done | rfl) | rfl)
        | ((with_reducible apply ends_t); case h => first | rfl | (simp only [stp, stq]; done))
        | ((with_reducible apply ends_f); case h => first | rfl | (simp only [stp, stq]; done))
      exact ends_some ⟨.inl rfl, _, rfl, rfl⟩

theorem rCheck_ev (m : Nat) (a b c : Int) : cf (evFn cx0 ext0 (m + 1)) 23 [gV a b c] = some (.v (.int .i64 (gE a b c))) := by
  have hb := box_g [] a b c
  have hi := ld_i (.v (.int .i64 a)) (.v (.int .i64 b)) (.v (.int .i64 c)) [] []
  have hi0 := ld_i (.v (.int .i64 a)) (.v (.int .i64 b)) (.v (.int .i64 c)) [.v (.int .i64 b), .v (.int .i64 c)] []
  have hi1 := ld_i (.v (.int .i64 a)) (.v (.int .i64 b)) (.v (.int .i64 c)) [.v (.int .i64 c)] []
  unfold cf
  rw [E_r06_Check]
  refine ends_cf (P := Try.prog) ?_
  unfold F_r06_Check
  by_cases h1 : a < 1
  · rw [show gE a b c = 2 from if_neg (by unfold gOk; omega)]
    have g1 : decide (a < 1) = true := decide_eq_true h1
    have stq := (And.intro (hb) (And.intro (fa_g) (And.intro (hi) (And.intro (hi0) (And.intro (hi1) (g1))))))
    repeat first
      | ((with_reducible apply ends_bind); case h => first | (simp only [stp, stq]; first | done | rfl) | rfl)
      | ((with_reducible apply ends_t); case h => first | rfl | (simp only [stp, stq]; done))
      | ((with_reducible apply ends_f); case h => first | rfl | (simp only [stp, stq]; done))
    exact ends_some ⟨.inl rfl, _, rfl, rfl⟩
  have g1 : decide (a < 1) = false := decide_eq_false h1
  by_cases h2 : 8 < a
  · rw [show gE a b c = 2 from if_neg (by unfold gOk; omega)]
    have g2 : decide (8 < a) = true := decide_eq_true h2
    have stq := (And.intro (hb) (And.intro (fa_g) (And.intro (hi) (And.intro (hi0) (And.intro (hi1) (And.intro (g1) (g2)))))))
    repeat first
      | ((with_reducible apply ends_bind); case h => first | (simp only [stp, stq]; first | done | rfl) | rfl)
      | ((with_reducible apply ends_t); case h => first | rfl | (simp only [stp, stq]; done))
      | ((with_reducible apply ends_f); case h => first | rfl | (simp only [stp, stq]; done))
    exact ends_some ⟨.inl rfl, _, rfl, rfl⟩
  have g2 : decide (8 < a) = false := decide_eq_false h2
  by_cases h3 : b < 1
  · rw [show gE a b c = 2 from if_neg (by unfold gOk; omega)]
    have g3 : decide (b < 1) = true := decide_eq_true h3
    have stq := (And.intro (hb) (And.intro (fa_g) (And.intro (hi) (And.intro (hi0) (And.intro (hi1) (And.intro (g1) (And.intro (g2) (g3))))))))
    repeat first
      | ((with_reducible apply ends_bind); case h => first | (simp only [stp, stq]; first | done | rfl) | rfl)
      | ((with_reducible apply ends_t); case h => first | rfl | (simp only [stp, stq]; done))
      | ((with_reducible apply ends_f); case h => first | rfl | (simp only [stp, stq]; done))
    exact ends_some ⟨.inl rfl, _, rfl, rfl⟩
  have g3 : decide (b < 1) = false := decide_eq_false h3
  by_cases h4 : 8 < b
  · rw [show gE a b c = 2 from if_neg (by unfold gOk; omega)]
    have g4 : decide (8 < b) = true := decide_eq_true h4
    have stq := (And.intro (hb) (And.intro (fa_g) (And.intro (hi) (And.intro (hi0) (And.intro (hi1) (And.intro (g1) (And.intro (g2) (And.intro (g3) (g4)))))))))
    repeat first
      | ((with_reducible apply ends_bind); case h => first | (simp only [stp, stq]; first | done | rfl) | rfl)
      | ((with_reducible apply ends_t); case h => first | rfl | (simp only [stp, stq]; done))
      | ((with_reducible apply ends_f); case h => first | rfl | (simp only [stp, stq]; done))
    exact ends_some ⟨.inl rfl, _, rfl, rfl⟩
  have g4 : decide (8 < b) = false := decide_eq_false h4
  by_cases h5 : c < 4
  · rw [show gE a b c = 2 from if_neg (by unfold gOk; omega)]
    have g5 : decide (c < 4) = true := decide_eq_true h5
    have stq := (And.intro (hb) (And.intro (fa_g) (And.intro (hi) (And.intro (hi0) (And.intro (hi1) (And.intro (g1) (And.intro (g2) (And.intro (g3) (And.intro (g4) (g5))))))))))
    repeat first
      | ((with_reducible apply ends_bind); case h => first | (simp only [stp, stq]; first | done | rfl) | rfl)
      | ((with_reducible apply ends_t); case h => first | rfl | (simp only [stp, stq]; done))
      | ((with_reducible apply ends_f); case h => first | rfl | (simp only [stp, stq]; done))
    exact ends_some ⟨.inl rfl, _, rfl, rfl⟩
  have g5 : decide (c < 4) = false := decide_eq_false h5
  by_cases h6 : 128 < c
  · rw [show gE a b c = 2 from if_neg (by unfold gOk; omega)]
    have g6 : decide (128 < c) = true := decide_eq_true h6
    have stq := (And.intro (hb) (And.intro (fa_g) (And.intro (hi) (And.intro (hi0) (And.intro (hi1) (And.intro (g1) (And.intro (g2) (And.intro (g3) (And.intro (g4) (And.intro (g5) (g6)))))))))))
    repeat first
      | ((with_reducible apply ends_bind); case h => first | (simp only [stp, stq]; first | done | rfl) | rfl)
      | ((with_reducible apply ends_t); case h => first | rfl | (simp only [stp, stq]; done))
      | ((with_reducible apply ends_f); case h => first | rfl | (simp only [stp, stq]; done))
    exact ends_some ⟨.inl rfl, _, rfl, rfl⟩
  have g6 : decide (128 < c) = false := decide_eq_false h6
  rw [show gE a b c = 0 from if_pos (by unfold gOk; omega)]
  have stq := (And.intro (hb) (And.intro (fa_g) (And.intro (hi) (And.intro (hi0) (And.intro (hi1) (And.intro (g1) (And.intro (g2) (And.intro (g3) (And.intro (g4) (And.intro (g5) (g6)))))))))))
  repeat first
    | ((with_reducible apply ends_bind); case h => first | (simp only [stp, stq]; first | done | rfl) | rfl)
    | ((with_reducible apply ends_t); case h => first | rfl | (simp only [stp, stq]; done))
    | ((with_reducible apply ends_f); case h => first | rfl | (simp only [stp, stq]; done))
  exact ends_some ⟨.inl rfl, _, rfl, rfl⟩

def gTot (a b c : Int) : Int := if gOk a b c then 2 + a * (2 + b + c) else 0
def gIno (a b c : Int) : Int := if gOk a b c then 3 * a * b else 0
theorem size_ev (m : Nat) (a b c : Int) (h : gOk a b c) : cf (evFn cx0 ext0 (m + 1)) 36 [gV a b c] = some (.v (.int .i64 (2 + b + c))) := by
  have e : cf (evFn cx0 ext0 (m + 1)) 36 [gV a b c] = some (.v (.int .i64 (IntKind.i64.wrap (IntKind.i64.wrap (2 + b) + c)))) := by kernel_rfl
  unfold gOk at h
  rw [e, show IntKind.i64.wrap (IntKind.i64.wrap (2 + b) + c) = 2 + b + c by rw [wrap64, wrap64]; omega]

theorem mul_le {a s : Int} (h1 : 0 ≤ a) (h2 : a ≤ 8) (h3 : 0 ≤ s) (h4 : s ≤ 200) : 0 ≤ a * s ∧ a * s ≤ 1600 := by
  constructor
  · exact Int.mul_nonneg h1 h3
  · have := Int.mul_le_mul h2 h4 h3 (by omega)
    omega
theorem wsmall {x : Int} (h1 : -4611686018427387904 ≤ x) (h2 : x ≤ 4611686018427387904) : IntKind.i64.wrap x = x := by rw [wrap64]; omega
theorem Total_ev (m : Nat) (a b c : Int) : cf (evFn cx0 ext0 (m + 3)) 20 [gV a b c] = some (.v (.int .i64 (gTot a b c))) := by
  have hb := box_g [] a b c
  have hl := ld_g a b c []
  have hi0 := ld_i (.v (.int .i64 a)) (.v (.int .i64 b)) (.v (.int .i64 c)) [.v (.int .i64 b), .v (.int .i64 c)] []
  have c1 : cf (evFn cx0 ext0 (m + 2)) 21 [gV a b c] = _ := Check_ev m a b c
  unfold cf
  rw [E_geom_Total]
  refine ends_cf (P := Try.prog) ?_
  unfold F_geom_Total
  by_cases h : gOk a b c
  · rw [show gE a b c = 0 from if_pos h] at c1
    rw [show gTot a b c = 2 + a * (2 + b + c) from if_pos h]
    have c2 : cf (evFn cx0 ext0 (m + 2)) 36 [gV a b c] = _ := size_ev (m + 1) a b c h
    unfold gOk at h
    have hm := mul_le (a := a) (s := 2 + b + c) (by omega) (by omega) (by omega) (by omega)
    have w1 := wsmall (x := a * (2 + b + c)) (by omega) (by omega)
    have w2 := wsmall (x := 2 + a * (2 + b + c)) (by omega) (by omega)
    have stq := (And.intro (hb) (And.intro (hl) (And.intro (frz_g) (And.intro (fa_g) (And.intro (hi0) (And.intro (c1) (And.intro (c2) (And.intro (w1) (w2)))))))))
    repeat first
      | ((with_reducible apply ends_bind); case h => first | (simp only [stp, stq]; first | done | rfl) | rfl)
      | ((with_reducible apply ends_t); case h => first | rfl | (simp only [stp, stq]; done))
      | ((with_reducible apply ends_f); case h => first | rfl | (simp only [stp, stq]; done))
    exact ends_some ⟨.inl rfl, _, rfl, rfl⟩
  · rw [show gE a b c = 2 from if_neg h] at c1
    rw [show gTot a b c = 0 from if_neg h]
    have q : ((2 : Int) != 0) = true := rfl
    have stq := (And.intro (hb) (And.intro (hl) (And.intro (frz_g) (And.intro (c1) (q)))))
    repeat first
      | ((with_reducible apply ends_bind); case h => first | (simp only [stp, stq]; first | done | rfl) | rfl)
      | ((with_reducible apply ends_t); case h => first | rfl | (simp only [stp, stq]; done))
      | ((with_reducible apply ends_f); case h => first | rfl | (simp only [stp, stq]; done))
    exact ends_some ⟨.inl rfl, _, rfl, rfl⟩

theorem ino_le {a b : Int} (h1 : 1 ≤ a) (h2 : a ≤ 8) (h3 : 1 ≤ b) (h4 : b ≤ 8) : 0 ≤ 3 * a * b ∧ 3 * a * b ≤ 192 := by
  have h : b = 1 ∨ b = 2 ∨ b = 3 ∨ b = 4 ∨ b = 5 ∨ b = 6 ∨ b = 7 ∨ b = 8 := by omega
  rcases h with rfl | rfl | rfl | rfl | rfl | rfl | rfl | rfl <;> omega
theorem ino_in {a b i : Int} (h1 : 1 ≤ a) (h2 : a ≤ 8) (h3 : 1 ≤ b) (h4 : b ≤ 8) (h5 : 1 ≤ i) (h6 : i ≤ 3 * a * b) :
    0 ≤ (i - 1) / (3 * b) ∧ (i - 1) / (3 * b) < a ∧ 0 ≤ (i - 1) % (3 * b) ∧ (i - 1) % (3 * b) < 3 * b ∧ i - 1 = 3 * b * ((i - 1) / (3 * b)) + (i - 1) % (3 * b) ∧ (i - 1) % (3 * b) / 3 < b := by
  have h : b = 1 ∨ b = 2 ∨ b = 3 ∨ b = 4 ∨ b = 5 ∨ b = 6 ∨ b = 7 ∨ b = 8 := by omega
  rcases h with rfl | rfl | rfl | rfl | rfl | rfl | rfl | rfl <;> omega
theorem rTotal_ev (m : Nat) (a b c : Int) : cf (evFn cx0 ext0 (m + 3)) 46 [gV a b c] = some (.v (.int .i64 (gTot a b c))) := by
  have hb := box_g [] a b c
  have hl := ld_g a b c []
  have hi := ld_i (.v (.int .i64 a)) (.v (.int .i64 b)) (.v (.int .i64 c)) [] []
  have hi0 := ld_i (.v (.int .i64 a)) (.v (.int .i64 b)) (.v (.int .i64 c)) [.v (.int .i64 b), .v (.int .i64 c)] []
  have hi1 := ld_i (.v (.int .i64 a)) (.v (.int .i64 b)) (.v (.int .i64 c)) [.v (.int .i64 c)] []
  have c1 : cf (evFn cx0 ext0 (m + 2)) 23 [gV a b c] = _ := rCheck_ev (m + 1) a b c
  unfold cf
  rw [E_r06_Total]
  refine ends_cf (P := Try.prog) ?_
  unfold F_r06_Total
  by_cases h : gOk a b c
  · rw [show gE a b c = 0 from if_pos h] at c1
    rw [show gTot a b c = 2 + a * (2 + b + c) from if_pos h]
    unfold gOk at h
    have hm := mul_le (a := a) (s := 2 + b + c) (by omega) (by omega) (by omega) (by omega)
    have w0 := wsmall (x := 2 + b) (by omega) (by omega)
    have w00 := wsmall (x := 2 + b + c) (by omega) (by omega)
    have w1 := wsmall (x := a * (2 + b + c)) (by omega) (by omega)
    have w2 := wsmall (x := 2 + a * (2 + b + c)) (by omega) (by omega)
    have stq := (And.intro (hb) (And.intro (hl) (And.intro (frz_g) (And.intro (fa_g) (And.intro (hi) (And.intro (hi0) (And.intro (hi1) (And.intro (c1) (And.intro (w0) (And.intro (w00) (And.intro (w1) (w2))))))))))))
    repeat first
      | ((with_reducible apply ends_bind); case h => first | (simp only [stp, stq]; first | done | rfl) | rfl)
      | ((with_reducible apply ends_t); case h => first | rfl | (simp only [stp, stq]; done))
      | ((with_reducible apply ends_f); case h => first | rfl | (simp only [stp, stq]; done))
    exact ends_some ⟨.inl rfl, _, rfl, rfl⟩
  · rw [show gE a b c = 2 from if_neg h] at c1
    rw [show gTot a b c = 0 from if_neg h]
    have q : ((2 : Int) != 0) = true := rfl
    have stq := (And.intro (hb) (And.intro (hl) (And.intro (frz_g) (And.intro (c1) (q)))))
    repeat first
      | ((with_reducible apply ends_bind); case h => first | (simp only [stp, stq]; first | done | rfl) | rfl)
      | ((with_reducible apply ends_t); case h => first | rfl | (simp only [stp, stq]; done))
      | ((with_reducible apply ends_f); case h => first | rfl | (simp only [stp, stq]; done))
    exact ends_some ⟨.inl rfl, _, rfl, rfl⟩
end Go.Sy
