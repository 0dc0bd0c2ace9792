/-
  Layer 11: a load's pointers, as the reader reads ptrs.At.
-/
import Derived.Test.YtjmdohmfienfoaaPPfNum
import Derived.Test.YtjmdohmfienfoaaSyArr
namespace Go.Sy.Pre
open Go.Proofs Num

theorem n_tf : (!true) = false := rfl
theorem n_ft : (!false) = true := rfl
theorem hL : arr8 Try.prog 40 54 = true := by kernel_rfl
def ptV (p : List UInt8) (i : Int) : Nat := le ((p.drop (2 * i).toNat).take 2)
def atV (p : List UInt8) (i : Int) : AV := if 0 ≤ i ∧ i < 27 then .tup [.v (.int .u16 (ptV p i)), .v (.int .i64 0)] else .tup [.v (.int .u16 0), .v (.int .i64 2)]
theorem mayAt_ev (m : Nat) (k : Int) : cf (evFn cx0 ext0 (m + 1)) 22 [.v (.int .i64 k)] = some (.v (.bool (decide (0 ≤ k ∧ k < 27)))) := by
  unfold cf
  rw [E_ptrs_may]
  refine ends_cf (P := Try.prog) ?_
  unfold F_ptrs_may
  by_cases h1 : 0 ≤ k
  · have g1 : decide (0 ≤ k) = true := decide_eq_true h1
    by_cases h2 : k < 27
    · have g2 : decide (k < 27) = true := decide_eq_true h2
      rw [decide_eq_true (⟨h1, h2⟩ : 0 ≤ k ∧ k < 27)]
      have stq := (And.intro (g1) (g2))
      repeat first
        | ((with_reducible apply ends_bind); case h => first | (simp only [stp, stq]; first | done | rfl) | rfl)
        | ((with_reducible apply ends_t); case h => first | rfl | (simp only [stp, stq]; done))
        | ((with_reducible apply ends_f); case h => first | rfl | (simp only [stp, stq]; done))
      exact ends_some ⟨.inl rfl, _, rfl, rfl⟩
    · have g2 : decide (k < 27) = false := decide_eq_false h2
      rw [decide_eq_false (fun h => h2 h.2 : ¬ (0 ≤ k ∧ k < 27))]
      have stq := (And.intro (g1) (g2))
      repeat first
        | ((with_reducible apply ends_bind); case h => first | (simp only [stp, stq]; first | done | rfl) | rfl)
        | ((with_reducible apply ends_t); case h => first | rfl | (simp only [stp, stq]; done))
        | ((with_reducible apply ends_f); case h => first | rfl | (simp only [stp, stq]; done))
      exact ends_some ⟨.inl rfl, _, rfl, rfl⟩
  · have g1 : decide (0 ≤ k) = false := decide_eq_false h1
    rw [decide_eq_false (fun h => h1 h.1 : ¬ (0 ≤ k ∧ k < 27))]
    have stq := (g1)
    repeat first
      | ((with_reducible apply ends_bind); case h => first | (simp only [stp, stq]; first | done | rfl) | rfl)
      | ((with_reducible apply ends_t); case h => first | rfl | (simp only [stp, stq]; done))
      | ((with_reducible apply ends_f); case h => first | rfl | (simp only [stp, stq]; done))
    exact ends_some ⟨.inl rfl, _, rfl, rfl⟩
theorem At_ev {n : Nat} (hn : 20 ≤ n) (p : List UInt8) (hp : p.length = 54) (i : Int) : cf (evFn cx0 ext0 n) 15 [.agg (u8l p), .v (.int .i64 i)] = some (atV p i) := by
  obtain ⟨m, rfl⟩ : ∃ m, n = m + 2 := ⟨n - 2, by omega⟩
  have c1 : cf (evFn cx0 ext0 (m + 1)) 22 [.v (.int .i64 i)] = _ := mayAt_ev m i
  unfold cf
  rw [E_ptrs_At]
  refine ends_cf (P := Try.prog) ?_
  unfold F_ptrs_At atV
  by_cases h : 0 ≤ i ∧ i < 27
  · rw [if_pos h]
    rw [decide_eq_true h] at c1
    have e1 : IntKind.i64.wrap (2 * i) = 2 * i := by rw [wrap64]; omega
    have c2 := Get16_ev (m := m + 1) (by omega) p true (2 * i) (by omega) (by omega)
    unfold getV at c2
    rw [if_neg (by omega)] at c2
    have s1 : sliceA Try.prog [u8l p] 40 (.bp 0 0) none none none = some (.bsl 0 0 54 1) := sl_a hL (k := 0) (b := p) rfl hp
    have f1 : frz [u8l p] true 6 (.bsl 0 0 54 1) = byt true p := frz_b8 true (b := p) rfl hp.symm
    have stq := (And.intro (box_agg) (And.intro (c1) (And.intro (n_tf) (And.intro (s1) (And.intro (e1) (And.intro (f1) (c2)))))))
    repeat first
      | ((with_reducible apply ends_bind); case h => first | (simp only [stp, stq]; first | done | rfl) | rfl)
      | ((with_reducible apply ends_t); case h => first | rfl | (simp only [stp, stq]; done))
      | ((with_reducible apply ends_f); case h => first | rfl | (simp only [stp, stq]; done))
    exact ends_some ⟨.inl rfl, _, rfl, rfl⟩
  · rw [if_neg h]
    rw [decide_eq_false h] at c1
    have stq := (And.intro (box_agg) (And.intro (c1) (n_ft)))
    repeat first
      | ((with_reducible apply ends_bind); case h => first | (simp only [stp, stq]; first | done | rfl) | rfl)
      | ((with_reducible apply ends_t); case h => first | rfl | (simp only [stp, stq]; done))
      | ((with_reducible apply ends_f); case h => first | rfl | (simp only [stp, stq]; done))
    exact ends_some ⟨.inl rfl, _, rfl, rfl⟩
end Go.Sy.Pre
