/-
  Layer 09: how many places there are.
-/
import Derived.Test.YtapjcmloaeaefaaPPfMaps
namespace Go.Sy.Pre
open Go.Proofs Num Go.Proofs.Ytapjcmloaeaefaa

/-- how many places a kind has -/
def manyN (a b c k : Int) : Nat := if gOk a b c then (if k = 0 then c.toNat else if k = 4 then (3 * b).toNat else 0) else 0
theorem many_le (a b c k : Int) : manyN a b c k ≤ 8 * (pSz k).toNat := by
  unfold manyN pSz
  split
  · rename_i h
    unfold gOk at h
    split
    · omega
    · split <;> omega
  · omega
theorem many_ev (m : Nat) (a b c k : Int) : cf (evFn cx0 ext0 (m + 3)) 26 [gV a b c, .v (.int .i64 k)] = some (.v (.int .i64 (manyN a b c k : Nat))) := by
  have hb := box_g [] a b c
  have hl := ld_g a b c []
  have c1 : cf (evFn cx0 ext0 (m + 2)) 40 [gV a b c] = _ := Check_ev m a b c
  have hi := ld_i (.v (.int .i64 a)) (.v (.int .i64 b)) (.v (.int .i64 c)) [] []
  unfold cf
  rw [E_maps_many]
  refine ends_cf (P := Try.prog) ?_
  unfold F_maps_many manyN
  by_cases h : gOk a b c
  · rw [show gE a b c = 0 from if_pos h] at c1
    rw [if_pos h]
    unfold gOk at h
    have z0 : ((0 : Int) != 0) = false := rfl
    by_cases hk : k = 0
    · subst hk
      have z1 : ((0 : Int) == 0) = true := rfl
      rw [if_pos rfl]
      obtain ⟨c, rfl⟩ : ∃ x : Nat, c = x := ⟨c.toNat, by omega⟩
      rw [Int.toNat_natCast]
      have stq := (And.intro (hb) (And.intro (hl) (And.intro (frz_g) (And.intro (c1) (And.intro (z0) (And.intro (z1) (And.intro (fa_g) (hi))))))))
      repeat first
        | ((with_reducible apply ends_bind); case h => first | (simp only [stp, stq]; first | done | rfl) | rfl)
        | ((with_reducible apply ends_t); case h => first | rfl | (simp only [stp, stq]; done))
        | ((with_reducible apply ends_f); case h => first | rfl | (simp only [stp, stq]; done))
      exact ends_some ⟨.inl rfl, _, rfl, rfl⟩
    · have z1 : (k == 0) = false := by simpa using hk
      rw [if_neg hk]
      by_cases hk4 : k = 4
      · subst hk4
        have z4 : ((4 : Int) == 4) = true := rfl
        have w : IntKind.i64.wrap (3 * b) = ((3 * b).toNat : Nat) := by rw [wrap64]; omega
        rw [if_pos rfl]
        have stq := (And.intro (hb) (And.intro (hl) (And.intro (frz_g) (And.intro (c1) (And.intro (z0) (And.intro (z1) (And.intro (z4) (And.intro (fa_g) (And.intro (hi) (w))))))))))
        repeat first
          | ((with_reducible apply ends_bind); case h => first | (simp only [stp, stq]; first | done | rfl) | rfl)
          | ((with_reducible apply ends_t); case h => first | rfl | (simp only [stp, stq]; done))
          | ((with_reducible apply ends_f); case h => first | rfl | (simp only [stp, stq]; done))
        exact ends_some ⟨.inl rfl, _, rfl, rfl⟩
      · have z4 : (k == 4) = false := by simpa using hk4
        rw [if_neg hk4]
        have stq := (And.intro (hb) (And.intro (hl) (And.intro (frz_g) (And.intro (c1) (And.intro (z0) (And.intro (z1) (z4)))))))
        repeat first
          | ((with_reducible apply ends_bind); case h => first | (simp only [stp, stq]; first | done | rfl) | rfl)
          | ((with_reducible apply ends_t); case h => first | rfl | (simp only [stp, stq]; done))
          | ((with_reducible apply ends_f); case h => first | rfl | (simp only [stp, stq]; done))
        exact ends_some ⟨.inl rfl, _, rfl, rfl⟩
  · rw [show gE a b c = 2 from if_neg h] at c1
    rw [if_neg h]
    have z0 : ((2 : Int) != 0) = true := rfl
    have stq := (And.intro (hb) (And.intro (hl) (And.intro (frz_g) (And.intro (c1) (z0)))))
    repeat first
      | ((with_reducible apply ends_bind); case h => first | (simp only [stp, stq]; first | done | rfl) | rfl)
      | ((with_reducible apply ends_t); case h => first | rfl | (simp only [stp, stq]; done))
      | ((with_reducible apply ends_f); case h => first | rfl | (simp only [stp, stq]; done))
    exact ends_some ⟨.inl rfl, _, rfl, rfl⟩
end Go.Sy.Pre
