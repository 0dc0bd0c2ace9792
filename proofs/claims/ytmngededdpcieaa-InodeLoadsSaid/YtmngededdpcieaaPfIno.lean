/-
  Layer 10: whether an inode may be.
-/
import Derived.Test.YtmngededdpcieaaPfBase
namespace Go.Sy
open Go.Proofs

theorem works_at (n : Nat) (h : 900 ≤ n) : cf (evFn cx0 ext0 n) 10 [] = some (.v (.bool true)) := by
  obtain ⟨m, rfl⟩ : ∃ m, n = m + 900 := ⟨n - 900, by omega⟩
  kernel_rfl

/-- an inode's cells -/
def inoL (k l s d e f g a b : Int) : List AV := [.v (.int .u8 k), .v (.int .u8 l), .v (.int .u32 s), .v (.int .u16 d), .v (.int .u16 e), .v (.int .u16 f), .v (.int .u16 g), .v (.int .u16 a), .v (.int .u16 b)]

section
variable (k l s d e f g a b : Int)

theorem ino_nz : binA Try.prog .neq 26 (.agg (inoL k l s d e f g a b)) (.agg (inoL 0 0 0 0 0 0 0 0 0)) = some (.v (.bool (!(k == 0 && (l == 0 && (s == 0 && (d == 0 && (e == 0 && (f == 0 && (g == 0 && (a == 0 && (b == 0 && true)))))))))))) := by kernel_rfl
theorem ino_zero : buildA Try.prog 26 [] = some (.agg (inoL 0 0 0 0 0 0 0 0 0)) := by kernel_rfl
theorem ino_ld (bx : Bx) : loadA Try.prog 26 (inoL k l s d e f g a b :: bx) (.bp 0 0) = some (.agg (inoL k l s d e f g a b)) := by kernel_rfl
theorem ino_k (bx : Bx) : loadA Try.prog 5 (inoL k l s d e f g a b :: bx) (.bp 0 0) = some (.v (.int .u8 k)) := by kernel_rfl
theorem ino_l (bx : Bx) : loadA Try.prog 5 (inoL k l s d e f g a b :: bx) (.bp 0 1) = some (.v (.int .u8 l)) := by kernel_rfl
theorem ino_s (bx : Bx) : loadA Try.prog 22 (inoL k l s d e f g a b :: bx) (.bp 0 2) = some (.v (.int .u32 s)) := by kernel_rfl
theorem ino_frz (bx : Bx) : frz bx true 6 (.agg (inoL k l s d e f g a b)) = .agg (inoL k l s d e f g a b) := by kernel_rfl
theorem ino_box (bx : Bx) : boxA bx (.agg (inoL k l s d e f g a b)) = some (.bp bx.length 0, bx ++ [inoL k l s d e f g a b]) := by kernel_rfl

def chkI : Int :=
  if k = 0 then (if (k == 0 && (l == 0 && (s == 0 && (d == 0 && (e == 0 && (f == 0 && (g == 0 && (a == 0 && (b == 0 && true))))))))) then 0 else 2)
  else if 2 < k ∨ 200 < l ∨ 48640 < s ∨ (k = 2 ∧ s.tmod 64 ≠ 0) then 2 else 0

theorem check_ev (n : Nat) (hn : 10 ≤ n) (hk0 : 0 ≤ k) : cf (evFn cx0 ext0 n) 8 [.agg (inoL k l s d e f g a b)] = some (.v (.int .i64 (chkI k l s d e f g a b))) := by
  obtain ⟨m, rfl⟩ : ∃ m, n = m + 1 := ⟨n - 1, by omega⟩
  have b0 := fun bx => ino_box k l s d e f g a b bx
  have l0 := fun bx => ino_ld k l s d e f g a b bx
  have l1 := fun bx => ino_k k l s d e f g a b bx
  have l2 := fun bx => ino_l k l s d e f g a b bx
  have l3 := fun bx => ino_s k l s d e f g a b bx
  have z0 := ino_zero
  have nz := ino_nz k l s d e f g a b
  unfold cf
  rw [E_inode_Check]
  refine ends_cf (P := Try.prog) ?_
  unfold F_inode_Check
  unfold chkI
  have q2 : decide (2 < k) = true ∨ decide (2 < k) = false := by cases decide (2 < k) <;> simp
  by_cases h0 : k = 0
  · rw [if_pos h0]
    have g0 : (k == 0) = true := by simp [h0]
    have g2 : (k == 2) = false := by simp [h0]
    have g3 : decide (2 < k) = false := decide_eq_false (by omega)
    cases hB : (k == 0 && (l == 0 && (s == 0 && (d == 0 && (e == 0 && (f == 0 && (g == 0 && (a == 0 && (b == 0 && true)))))))))
    · rw [hB] at nz
      simp only [Bool.not_false] at nz
      have stq := (And.intro (b0) (And.intro (l0) (And.intro (l1) (And.intro (l2) (And.intro (l3) (And.intro (z0) (And.intro (nz) (g0))))))))
      repeat first
        | ((with_reducible apply ends_bind); case h => first | (simp only [stp, stq]; first | done | rfl) | rfl)
        | ((with_reducible apply ends_t); case h => first | rfl | (simp only [stp, stq]; done))
        | ((with_reducible apply ends_f); case h => first | rfl | (simp only [stp, stq]; done))
      exact ends_some ⟨.inl rfl, _, rfl, rfl⟩
    · rw [hB] at nz
      simp only [Bool.not_true] at nz
      simp only [Bool.and_eq_true, beq_iff_eq] at hB
      have g4 : decide (200 < l) = false := decide_eq_false (by omega)
      have g5 : decide (48640 < s) = false := decide_eq_false (by omega)
      have stq := (And.intro (b0) (And.intro (l0) (And.intro (l1) (And.intro (l2) (And.intro (l3) (And.intro (z0) (And.intro (nz) (And.intro (g0) (And.intro (g4) (g5))))))))))
      repeat first
        | ((with_reducible apply ends_bind); case h => first | (simp only [stp, stq]; first | done | rfl) | rfl)
        | ((with_reducible apply ends_t); case h => first | rfl | (simp only [stp, stq]; done))
        | ((with_reducible apply ends_f); case h => first | rfl | (simp only [stp, stq]; done))
      exact ends_some ⟨.inl rfl, _, rfl, rfl⟩
  · rw [if_neg h0]
    have g0 : (k == 0) = false := by simp [h0]
    by_cases h3 : 2 < k
    · rw [if_pos (.inl h3)]
      have g1 : (k == 1) = false := by simp; omega
      have g2 : (k == 2) = false := by simp; omega
      have g3 : decide (2 < k) = true := decide_eq_true h3
      have stq := (And.intro (b0) (And.intro (l0) (And.intro (l1) (And.intro (l2) (And.intro (l3) (And.intro (z0) (And.intro (g0) (And.intro (g1) (And.intro (g2) (g3))))))))))
      repeat first
        | ((with_reducible apply ends_bind); case h => first | (simp only [stp, stq]; first | done | rfl) | rfl)
        | ((with_reducible apply ends_t); case h => first | rfl | (simp only [stp, stq]; done))
        | ((with_reducible apply ends_f); case h => first | rfl | (simp only [stp, stq]; done))
      exact ends_some ⟨.inl rfl, _, rfl, rfl⟩
    · have g3 : decide (2 < k) = false := decide_eq_false h3
      by_cases h4 : 200 < l
      · rw [if_pos (.inr (.inl h4))]
        have g4 : decide (200 < l) = true := decide_eq_true h4
        by_cases h2 : k = 2
        · have g2 : (k == 2) = true := by simp [h2]
          cases g6 : (s.tmod 64 != 0)
          · skip
            have stq := (And.intro (b0) (And.intro (l0) (And.intro (l1) (And.intro (l2) (And.intro (l3) (And.intro (z0) (And.intro (g0) (And.intro (g2) (And.intro (g3) (And.intro (g4) (g6)))))))))))
            repeat first
              | ((with_reducible apply ends_bind); case h => first | (simp only [stp, stq]; first | done | rfl) | rfl)
              | ((with_reducible apply ends_t); case h => first | rfl | (simp only [stp, stq]; done))
              | ((with_reducible apply ends_f); case h => first | rfl | (simp only [stp, stq]; done))
            exact ends_some ⟨.inl rfl, _, rfl, rfl⟩
          · skip
            have stq := (And.intro (b0) (And.intro (l0) (And.intro (l1) (And.intro (l2) (And.intro (l3) (And.intro (z0) (And.intro (g0) (And.intro (g2) (And.intro (g3) (And.intro (g4) (g6)))))))))))
            repeat first
              | ((with_reducible apply ends_bind); case h => first | (simp only [stp, stq]; first | done | rfl) | rfl)
              | ((with_reducible apply ends_t); case h => first | rfl | (simp only [stp, stq]; done))
              | ((with_reducible apply ends_f); case h => first | rfl | (simp only [stp, stq]; done))
            exact ends_some ⟨.inl rfl, _, rfl, rfl⟩
        · have g2 : (k == 2) = false := by simp [h2]
          have g1 : (k == 1) = true := by simp; omega
          have stq := (And.intro (b0) (And.intro (l0) (And.intro (l1) (And.intro (l2) (And.intro (l3) (And.intro (z0) (And.intro (g0) (And.intro (g1) (And.intro (g2) (And.intro (g3) (g4)))))))))))
          repeat first
            | ((with_reducible apply ends_bind); case h => first | (simp only [stp, stq]; first | done | rfl) | rfl)
            | ((with_reducible apply ends_t); case h => first | rfl | (simp only [stp, stq]; done))
            | ((with_reducible apply ends_f); case h => first | rfl | (simp only [stp, stq]; done))
          exact ends_some ⟨.inl rfl, _, rfl, rfl⟩
      · have g4 : decide (200 < l) = false := decide_eq_false h4
        by_cases h5 : 48640 < s
        · rw [if_pos (.inr (.inr (.inl h5)))]
          have g5 : decide (48640 < s) = true := decide_eq_true h5
          by_cases h2 : k = 2
          · have g2 : (k == 2) = true := by simp [h2]
            cases g6 : (s.tmod 64 != 0)
            · skip
              have stq := (And.intro (b0) (And.intro (l0) (And.intro (l1) (And.intro (l2) (And.intro (l3) (And.intro (z0) (And.intro (g0) (And.intro (g2) (And.intro (g3) (And.intro (g4) (And.intro (g5) (g6))))))))))))
              repeat first
                | ((with_reducible apply ends_bind); case h => first | (simp only [stp, stq]; first | done | rfl) | rfl)
                | ((with_reducible apply ends_t); case h => first | rfl | (simp only [stp, stq]; done))
                | ((with_reducible apply ends_f); case h => first | rfl | (simp only [stp, stq]; done))
              exact ends_some ⟨.inl rfl, _, rfl, rfl⟩
            · skip
              have stq := (And.intro (b0) (And.intro (l0) (And.intro (l1) (And.intro (l2) (And.intro (l3) (And.intro (z0) (And.intro (g0) (And.intro (g2) (And.intro (g3) (And.intro (g4) (And.intro (g5) (g6))))))))))))
              repeat first
                | ((with_reducible apply ends_bind); case h => first | (simp only [stp, stq]; first | done | rfl) | rfl)
                | ((with_reducible apply ends_t); case h => first | rfl | (simp only [stp, stq]; done))
                | ((with_reducible apply ends_f); case h => first | rfl | (simp only [stp, stq]; done))
              exact ends_some ⟨.inl rfl, _, rfl, rfl⟩
          · have g2 : (k == 2) = false := by simp [h2]
            have g1 : (k == 1) = true := by simp; omega
            have stq := (And.intro (b0) (And.intro (l0) (And.intro (l1) (And.intro (l2) (And.intro (l3) (And.intro (z0) (And.intro (g0) (And.intro (g1) (And.intro (g2) (And.intro (g3) (And.intro (g4) (g5))))))))))))
            repeat first
              | ((with_reducible apply ends_bind); case h => first | (simp only [stp, stq]; first | done | rfl) | rfl)
              | ((with_reducible apply ends_t); case h => first | rfl | (simp only [stp, stq]; done))
              | ((with_reducible apply ends_f); case h => first | rfl | (simp only [stp, stq]; done))
            exact ends_some ⟨.inl rfl, _, rfl, rfl⟩
        · have g5 : decide (48640 < s) = false := decide_eq_false h5
          by_cases h2 : k = 2
          · have g2 : (k == 2) = true := by simp [h2]
            by_cases h6 : s.tmod 64 = 0
            · rw [if_neg (by omega)]
              have g6 : (s.tmod 64 != 0) = false := by simp [h6]
              have stq := (And.intro (b0) (And.intro (l0) (And.intro (l1) (And.intro (l2) (And.intro (l3) (And.intro (z0) (And.intro (g0) (And.intro (g2) (And.intro (g3) (And.intro (g4) (And.intro (g5) (g6))))))))))))
              repeat first
                | ((with_reducible apply ends_bind); case h => first | (simp only [stp, stq]; first | done | rfl) | rfl)
                | ((with_reducible apply ends_t); case h => first | rfl | (simp only [stp, stq]; done))
                | ((with_reducible apply ends_f); case h => first | rfl | (simp only [stp, stq]; done))
              exact ends_some ⟨.inl rfl, _, rfl, rfl⟩
            · rw [if_pos (.inr (.inr (.inr ⟨h2, h6⟩)))]
              have g6 : (s.tmod 64 != 0) = true := by simp [h6]
              have stq := (And.intro (b0) (And.intro (l0) (And.intro (l1) (And.intro (l2) (And.intro (l3) (And.intro (z0) (And.intro (g0) (And.intro (g2) (And.intro (g3) (And.intro (g4) (And.intro (g5) (g6))))))))))))
              repeat first
                | ((with_reducible apply ends_bind); case h => first | (simp only [stp, stq]; first | done | rfl) | rfl)
                | ((with_reducible apply ends_t); case h => first | rfl | (simp only [stp, stq]; done))
                | ((with_reducible apply ends_f); case h => first | rfl | (simp only [stp, stq]; done))
              exact ends_some ⟨.inl rfl, _, rfl, rfl⟩
          · rw [if_neg (by omega)]
            have g2 : (k == 2) = false := by simp [h2]
            have g1 : (k == 1) = true := by simp; omega
            have stq := (And.intro (b0) (And.intro (l0) (And.intro (l1) (And.intro (l2) (And.intro (l3) (And.intro (z0) (And.intro (g0) (And.intro (g1) (And.intro (g2) (And.intro (g3) (And.intro (g4) (g5))))))))))))
            repeat first
              | ((with_reducible apply ends_bind); case h => first | (simp only [stp, stq]; first | done | rfl) | rfl)
              | ((with_reducible apply ends_t); case h => first | rfl | (simp only [stp, stq]; done))
              | ((with_reducible apply ends_f); case h => first | rfl | (simp only [stp, stq]; done))
            exact ends_some ⟨.inl rfl, _, rfl, rfl⟩

theorem rCheck_ev (n : Nat) (hn : 10 ≤ n) (hk0 : 0 ≤ k) : cf (evFn cx0 ext0 n) 9 [.agg (inoL k l s d e f g a b)] = some (.v (.int .i64 (chkI k l s d e f g a b))) := by
  obtain ⟨m, rfl⟩ : ∃ m, n = m + 1 := ⟨n - 1, by omega⟩
  have b0 := fun bx => ino_box k l s d e f g a b bx
  have l0 := fun bx => ino_ld k l s d e f g a b bx
  have l1 := fun bx => ino_k k l s d e f g a b bx
  have l2 := fun bx => ino_l k l s d e f g a b bx
  have l3 := fun bx => ino_s k l s d e f g a b bx
  have z0 := ino_zero
  have nz := ino_nz k l s d e f g a b
  unfold cf
  rw [E_r10_Check]
  refine ends_cf (P := Try.prog) ?_
  unfold F_r10_Check
  unfold chkI
  have q2 : decide (2 < k) = true ∨ decide (2 < k) = false := by cases decide (2 < k) <;> simp
  by_cases h0 : k = 0
  · rw [if_pos h0]
    have g0 : (k == 0) = true := by simp [h0]
    have g2 : (k == 2) = false := by simp [h0]
    have g3 : decide (2 < k) = false := decide_eq_false (by omega)
    cases hB : (k == 0 && (l == 0 && (s == 0 && (d == 0 && (e == 0 && (f == 0 && (g == 0 && (a == 0 && (b == 0 && true)))))))))
    · rw [hB] at nz
      simp only [Bool.not_false] at nz
      have stq := (And.intro (b0) (And.intro (l0) (And.intro (l1) (And.intro (l2) (And.intro (l3) (And.intro (z0) (And.intro (nz) (g0))))))))
      repeat first
        | ((with_reducible apply ends_bind); case h => first | (simp only [stp, stq]; first | done | rfl) | rfl)
        | ((with_reducible apply ends_t); case h => first | rfl | (simp only [stp, stq]; done))
        | ((with_reducible apply ends_f); case h => first | rfl | (simp only [stp, stq]; done))
      exact ends_some ⟨.inl rfl, _, rfl, rfl⟩
    · rw [hB] at nz
      simp only [Bool.not_true] at nz
      simp only [Bool.and_eq_true, beq_iff_eq] at hB
      have g4 : decide (200 < l) = false := decide_eq_false (by omega)
      have g5 : decide (48640 < s) = false := decide_eq_false (by omega)
      have stq := (And.intro (b0) (And.intro (l0) (And.intro (l1) (And.intro (l2) (And.intro (l3) (And.intro (z0) (And.intro (nz) (And.intro (g0) (And.intro (g4) (g5))))))))))
      repeat first
        | ((with_reducible apply ends_bind); case h => first | (simp only [stp, stq]; first | done | rfl) | rfl)
        | ((with_reducible apply ends_t); case h => first | rfl | (simp only [stp, stq]; done))
        | ((with_reducible apply ends_f); case h => first | rfl | (simp only [stp, stq]; done))
      exact ends_some ⟨.inl rfl, _, rfl, rfl⟩
  · rw [if_neg h0]
    have g0 : (k == 0) = false := by simp [h0]
    by_cases h3 : 2 < k
    · rw [if_pos (.inl h3)]
      have g1 : (k == 1) = false := by simp; omega
      have g2 : (k == 2) = false := by simp; omega
      have g3 : decide (2 < k) = true := decide_eq_true h3
      have stq := (And.intro (b0) (And.intro (l0) (And.intro (l1) (And.intro (l2) (And.intro (l3) (And.intro (z0) (And.intro (g0) (And.intro (g1) (And.intro (g2) (g3))))))))))
      repeat first
        | ((with_reducible apply ends_bind); case h => first | (simp only [stp, stq]; first | done | rfl) | rfl)
        | ((with_reducible apply ends_t); case h => first | rfl | (simp only [stp, stq]; done))
        | ((with_reducible apply ends_f); case h => first | rfl | (simp only [stp, stq]; done))
      exact ends_some ⟨.inl rfl, _, rfl, rfl⟩
    · have g3 : decide (2 < k) = false := decide_eq_false h3
      by_cases h4 : 200 < l
      · rw [if_pos (.inr (.inl h4))]
        have g4 : decide (200 < l) = true := decide_eq_true h4
        by_cases h2 : k = 2
        · have g2 : (k == 2) = true := by simp [h2]
          cases g6 : (s.tmod 64 != 0)
          · skip
            have stq := (And.intro (b0) (And.intro (l0) (And.intro (l1) (And.intro (l2) (And.intro (l3) (And.intro (z0) (And.intro (g0) (And.intro (g2) (And.intro (g3) (And.intro (g4) (g6)))))))))))
            repeat first
              | ((with_reducible apply ends_bind); case h => first | (simp only [stp, stq]; first | done | rfl) | rfl)
              | ((with_reducible apply ends_t); case h => first | rfl | (simp only [stp, stq]; done))
              | ((with_reducible apply ends_f); case h => first | rfl | (simp only [stp, stq]; done))
            exact ends_some ⟨.inl rfl, _, rfl, rfl⟩
          · skip
            have stq := (And.intro (b0) (And.intro (l0) (And.intro (l1) (And.intro (l2) (And.intro (l3) (And.intro (z0) (And.intro (g0) (And.intro (g2) (And.intro (g3) (And.intro (g4) (g6)))))))))))
            repeat first
              | ((with_reducible apply ends_bind); case h => first | (simp only [stp, stq]; first | done | rfl) | rfl)
              | ((with_reducible apply ends_t); case h => first | rfl | (simp only [stp, stq]; done))
              | ((with_reducible apply ends_f); case h => first | rfl | (simp only [stp, stq]; done))
            exact ends_some ⟨.inl rfl, _, rfl, rfl⟩
        · have g2 : (k == 2) = false := by simp [h2]
          have g1 : (k == 1) = true := by simp; omega
          have stq := (And.intro (b0) (And.intro (l0) (And.intro (l1) (And.intro (l2) (And.intro (l3) (And.intro (z0) (And.intro (g0) (And.intro (g1) (And.intro (g2) (And.intro (g3) (g4)))))))))))
          repeat first
            | ((with_reducible apply ends_bind); case h => first | (simp only [stp, stq]; first | done | rfl) | rfl)
            | ((with_reducible apply ends_t); case h => first | rfl | (simp only [stp, stq]; done))
            | ((with_reducible apply ends_f); case h => first | rfl | (simp only [stp, stq]; done))
          exact ends_some ⟨.inl rfl, _, rfl, rfl⟩
      · have g4 : decide (200 < l) = false := decide_eq_false h4
        by_cases h5 : 48640 < s
        · rw [if_pos (.inr (.inr (.inl h5)))]
          have g5 : decide (48640 < s) = true := decide_eq_true h5
          by_cases h2 : k = 2
          · have g2 : (k == 2) = true := by simp [h2]
            cases g6 : (s.tmod 64 != 0)
            · skip
              have stq := (And.intro (b0) (And.intro (l0) (And.intro (l1) (And.intro (l2) (And.intro (l3) (And.intro (z0) (And.intro (g0) (And.intro (g2) (And.intro (g3) (And.intro (g4) (And.intro (g5) (g6))))))))))))
              repeat first
                | ((with_reducible apply ends_bind); case h => first | (simp only [stp, stq]; first | done | rfl) | rfl)
                | ((with_reducible apply ends_t); case h => first | rfl | (simp only [stp, stq]; done))
                | ((with_reducible apply ends_f); case h => first | rfl | (simp only [stp, stq]; done))
              exact ends_some ⟨.inl rfl, _, rfl, rfl⟩
            · skip
              have stq := (And.intro (b0) (And.intro (l0) (And.intro (l1) (And.intro (l2) (And.intro (l3) (And.intro (z0) (And.intro (g0) (And.intro (g2) (And.intro (g3) (And.intro (g4) (And.intro (g5) (g6))))))))))))
              repeat first
                | ((with_reducible apply ends_bind); case h => first | (simp only [stp, stq]; first | done | rfl) | rfl)
                | ((with_reducible apply ends_t); case h => first | rfl | (simp only [stp, stq]; done))
                | ((with_reducible apply ends_f); case h => first | rfl | (simp only [stp, stq]; done))
              exact ends_some ⟨.inl rfl, _, rfl, rfl⟩
          · have g2 : (k == 2) = false := by simp [h2]
            have g1 : (k == 1) = true := by simp; omega
            have stq := (And.intro (b0) (And.intro (l0) (And.intro (l1) (And.intro (l2) (And.intro (l3) (And.intro (z0) (And.intro (g0) (And.intro (g1) (And.intro (g2) (And.intro (g3) (And.intro (g4) (g5))))))))))))
            repeat first
              | ((with_reducible apply ends_bind); case h => first | (simp only [stp, stq]; first | done | rfl) | rfl)
              | ((with_reducible apply ends_t); case h => first | rfl | (simp only [stp, stq]; done))
              | ((with_reducible apply ends_f); case h => first | rfl | (simp only [stp, stq]; done))
            exact ends_some ⟨.inl rfl, _, rfl, rfl⟩
        · have g5 : decide (48640 < s) = false := decide_eq_false h5
          by_cases h2 : k = 2
          · have g2 : (k == 2) = true := by simp [h2]
            by_cases h6 : s.tmod 64 = 0
            · rw [if_neg (by omega)]
              have g6 : (s.tmod 64 != 0) = false := by simp [h6]
              have stq := (And.intro (b0) (And.intro (l0) (And.intro (l1) (And.intro (l2) (And.intro (l3) (And.intro (z0) (And.intro (g0) (And.intro (g2) (And.intro (g3) (And.intro (g4) (And.intro (g5) (g6))))))))))))
              repeat first
                | ((with_reducible apply ends_bind); case h => first | (simp only [stp, stq]; first | done | rfl) | rfl)
                | ((with_reducible apply ends_t); case h => first | rfl | (simp only [stp, stq]; done))
                | ((with_reducible apply ends_f); case h => first | rfl | (simp only [stp, stq]; done))
              exact ends_some ⟨.inl rfl, _, rfl, rfl⟩
            · rw [if_pos (.inr (.inr (.inr ⟨h2, h6⟩)))]
              have g6 : (s.tmod 64 != 0) = true := by simp [h6]
              have stq := (And.intro (b0) (And.intro (l0) (And.intro (l1) (And.intro (l2) (And.intro (l3) (And.intro (z0) (And.intro (g0) (And.intro (g2) (And.intro (g3) (And.intro (g4) (And.intro (g5) (g6))))))))))))
              repeat first
                | ((with_reducible apply ends_bind); case h => first | (simp only [stp, stq]; first | done | rfl) | rfl)
                | ((with_reducible apply ends_t); case h => first | rfl | (simp only [stp, stq]; done))
                | ((with_reducible apply ends_f); case h => first | rfl | (simp only [stp, stq]; done))
              exact ends_some ⟨.inl rfl, _, rfl, rfl⟩
          · rw [if_neg (by omega)]
            have g2 : (k == 2) = false := by simp [h2]
            have g1 : (k == 1) = true := by simp; omega
            have stq := (And.intro (b0) (And.intro (l0) (And.intro (l1) (And.intro (l2) (And.intro (l3) (And.intro (z0) (And.intro (g0) (And.intro (g1) (And.intro (g2) (And.intro (g3) (And.intro (g4) (g5))))))))))))
            repeat first
              | ((with_reducible apply ends_bind); case h => first | (simp only [stp, stq]; first | done | rfl) | rfl)
              | ((with_reducible apply ends_t); case h => first | rfl | (simp only [stp, stq]; done))
              | ((with_reducible apply ends_f); case h => first | rfl | (simp only [stp, stq]; done))
            exact ends_some ⟨.inl rfl, _, rfl, rfl⟩

theorem checks_ev (hk0 : 0 ≤ k) : cf (evFn cx0 ext0 1000) 3 [.agg (inoL k l s d e f g a b)] = some (.v (.bool true)) := by
  have hw := works_at 999 (by omega)
  have c1 := check_ev k l s d e f g a b 999 (by omega) hk0
  have c2 := rCheck_ev k l s d e f g a b 999 (by omega) hk0
  have b0 := fun bx => ino_box k l s d e f g a b bx
  have l0 := fun bx => ino_ld k l s d e f g a b bx
  have fz := fun bx => ino_frz k l s d e f g a b bx
  unfold cf
  rw [E_l10_InodeChecks]
  refine ends_cf (P := Try.prog) ?_
  unfold F_l10_InodeChecks
  have stq := (And.intro (b0) (And.intro (l0) (And.intro (fz) (And.intro (c1) (And.intro (c2) (hw))))))
  repeat first
    | ((with_reducible apply ends_bind); case h => first | (simp only [stp, stq]; first | done | rfl) | rfl)
    | ((with_reducible apply ends_t); case h => first | rfl | (simp only [stp, stq]; done))
    | ((with_reducible apply ends_f); case h => first | rfl | (simp only [stp, stq]; done))
  exact ends_some ⟨.inl rfl, _, rfl, rfl⟩
end

structure Ino where
  k : UInt8
  l : UInt8
  s : Nat
  d : Nat
  e : Nat
  f : Nat
  g : Nat
  a : Nat
  b : Nat
def Ino.ok (x : Ino) : Prop := x.s < 4294967296 ∧ x.d < 65536 ∧ x.e < 65536 ∧ x.f < 65536 ∧ x.g < 65536 ∧ x.a < 65536 ∧ x.b < 65536
def Ino.cells (x : Ino) : List AV := inoL x.k.toNat x.l.toNat x.s x.d x.e x.f x.g x.a x.b

theorem fits_ino {l : List AV} (h : ShFits [.int .u8, .int .u8, .int .u32, .int .u16, .int .u16, .int .u16, .int .u16, .int .u16, .int .u16] l) : ∃ x : Ino, x.ok ∧ l = x.cells := by
  match l, h with
  | [k, l, s, d, e, f, g, a, b], h =>
    obtain ⟨k, rfl⟩ := fit_u8 (h.2 0 k _ rfl rfl)
    obtain ⟨l, rfl⟩ := fit_u8 (h.2 1 l _ rfl rfl)
    obtain ⟨s, rfl, hs⟩ := fit_u32 (h.2 2 s _ rfl rfl)
    obtain ⟨d, rfl, hd⟩ := fit_u16 (h.2 3 d _ rfl rfl)
    obtain ⟨e, rfl, he⟩ := fit_u16 (h.2 4 e _ rfl rfl)
    obtain ⟨f, rfl, hf⟩ := fit_u16 (h.2 5 f _ rfl rfl)
    obtain ⟨g, rfl, hg⟩ := fit_u16 (h.2 6 g _ rfl rfl)
    obtain ⟨a, rfl, ha⟩ := fit_u16 (h.2 7 a _ rfl rfl)
    obtain ⟨b, rfl, hb⟩ := fit_u16 (h.2 8 b _ rfl rfl)
    exact ⟨⟨k, l, s, d, e, f, g, a, b⟩, ⟨hs, hd, he, hf, hg, ha, hb⟩, rfl⟩
  | [], h => simp [ShFits] at h
  | [_], h => simp [ShFits] at h
  | [_, _], h => simp [ShFits] at h
  | [_, _, _], h => simp [ShFits] at h
  | [_, _, _, _], h => simp [ShFits] at h
  | [_, _, _, _, _], h => simp [ShFits] at h
  | [_, _, _, _, _, _], h => simp [ShFits] at h
  | [_, _, _, _, _, _, _], h => simp [ShFits] at h
  | [_, _, _, _, _, _, _, _], h => simp [ShFits] at h
  | _ :: _ :: _ :: _ :: _ :: _ :: _ :: _ :: _ :: _ :: _, h => simp [ShFits] at h

theorem checks_row (x : Ino) : cf (evFn cx0 ext0 1000) 3 [.agg x.cells] = some (.v (.bool true)) := checks_ev _ _ _ _ _ _ _ _ _ (by omega)
end Go.Sy
