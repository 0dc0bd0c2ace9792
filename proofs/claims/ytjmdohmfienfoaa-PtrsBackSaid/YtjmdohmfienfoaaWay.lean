/-
  The ways of blocks, as the reader reads them; for numbers from 0 to 759.
-/
import Derived.Test.YtjmdohmfienfoaaBlk
namespace Go.Sy
open Go.Proofs
/-- the way of a block -/
def way (k : Int) : Int × Int × Int := if k < 4 then (0, k, 0) else if k < 31 then (1, k - 4, 0) else (2, (k - 31) / 27, (k - 31) % 27)
def wayV (w : Int × Int × Int) : AV := .agg [.v (.int .i64 w.1), .v (.int .i64 w.2.1), .v (.int .i64 w.2.2)]
theorem f10_ev (m : Nat) (k : Int) (h0 : 0 ≤ k) (h1 : k < 760) : cf (evFn cx0 ext0 (m + 1)) 10 [.v (.int .i64 k)] = some (.tup [wayV (way k), .v (.int .i64 0)]) := by
  unfold cf
  rw [E10]
  have g0 : decide (k < 0) = false := decide_eq_false (by omega)
  have g1 : decide (760 ≤ k) = false := decide_eq_false (by omega)
  refine ends_cf (P := Try.prog) ?_
  unfold F10
  by_cases g2 : k < 4
  · repeat first
      | ((with_reducible apply ends_bind); case h => first | (simp only [pv_some, bin_lss, bin_geq, gsel_tt, gsel_tf, gsel_ff, gsel_ft, pick_t, pick_f, g0, g1, decide_eq_true g2]; rfl) | rfl)
      | ((with_reducible apply ends_t); case h => simp only [decide_eq_true g2])
      | ((with_reducible apply ends_f); case h => simp only [g0, g1])
    refine ends_some ⟨.inl rfl, _, rfl, ?_⟩
    rw [way, if_pos g2]
    rfl
  · by_cases g3 : k < 31
    · have e1 : IntKind.i64.wrap (k - 4) = k - 4 := w64 (by omega) (by omega)
      repeat first
        | ((with_reducible apply ends_bind); case h => first | (simp only [pv_some, bin_lss, bin_geq, bin_sub, e1, gsel_tt, gsel_tf, gsel_ff, gsel_ft, pick_t, pick_f, g0, g1, decide_eq_false g2, decide_eq_true g3]; rfl) | rfl)
        | ((with_reducible apply ends_t); case h => simp only [decide_eq_true g3])
        | ((with_reducible apply ends_f); case h => simp only [g0, g1, decide_eq_false g2])
      refine ends_some ⟨.inl rfl, _, rfl, ?_⟩
      rw [way, if_neg g2, if_pos g3]
      rfl
    · have e1 : IntKind.i64.wrap (k - 31) = k - 31 := w64 (by omega) (by omega)
      have e2 : IntKind.i64.wrap ((k - 31).tdiv 27) = (k - 31) / 27 := by rw [Int.tdiv_eq_ediv_of_nonneg (by omega), w64 (by omega) (by omega)]
      have e3 : (k - 31).tmod 27 = (k - 31) % 27 := Int.tmod_eq_emod_of_nonneg (by omega)
      repeat first
        | ((with_reducible apply ends_bind); case h => first | (simp only [pv_some, bin_lss, bin_geq, bin_sub, bin_quo _ _ _ (27 : Int) _ (by decide), bin_rem _ _ _ (27 : Int) _ (by decide), e1, e2, e3, gsel_tt, gsel_tf, gsel_ff, gsel_ft, pick_t, pick_f, g0, g1, decide_eq_false g2, decide_eq_false g3]; rfl) | rfl)
        | ((with_reducible apply ends_f); case h => simp only [g0, g1, decide_eq_false g2, decide_eq_false g3])
      refine ends_some ⟨.inl rfl, _, rfl, ?_⟩
      rw [way, if_neg g2, if_neg g3]
      rfl
end Go.Sy
