/-
  The block of a way, as the reader reads it; for blocks from 0 to 759.
-/
import Derived.Test.YtjmdohmfienfoaaWay
namespace Go.Sy
open Go.Proofs
theorem f22_ev (m : Nat) (k : Int) (h0 : 0 ≤ k) (h1 : k < 27) : cf (evFn cx0 ext0 (m + 1)) 22 [.v (.int .i64 k)] = some (.v (.bool true)) := by
  unfold cf
  rw [E22]
  refine ends_cf (P := Try.prog) ?_
  unfold F22
  repeat first
    | ((with_reducible apply ends_bind); case h => first | (simp only [pv_some, bin_lss, bin_geq, gsel_tt, gsel_tf, gsel_ff, gsel_ft, pick_t, pick_f, decide_eq_true h0, decide_eq_true h1]; rfl) | rfl)
  exact ends_some ⟨.inl rfl, _, rfl, rfl⟩
theorem ne26 (a b c : Int) : binA Try.prog .neq 26 (.agg [.v (.int .i64 a), .v (.int .i64 b), .v (.int .i64 c)]) (.agg [.v (.int .i64 a), .v (.int .i64 b), .v (.int .i64 c)]) = some (.v (.bool false)) := by
  have : binA Try.prog .neq 26 (.agg [.v (.int .i64 a), .v (.int .i64 b), .v (.int .i64 c)]) (.agg [.v (.int .i64 a), .v (.int .i64 b), .v (.int .i64 c)]) = some (.v (.bool (!(a == a && (b == b && (c == c && true)))))) := by kernel_rfl
  rw [this]
  simp
theorem ld26 (x : List AV) (a b c : AV) : loadA Try.prog 26 [x, [a, b, c]] (.bp 1 0) = some (.agg [a, b, c]) := by kernel_rfl
theorem ld26' (x : List AV) (a b c : AV) : loadA Try.prog 26 [[a, b, c], x] (.bp 0 0) = some (.agg [a, b, c]) := by kernel_rfl
theorem box26 (a b c : Int) : boxA [] (.agg [.v (.int .i64 a), .v (.int .i64 b), .v (.int .i64 c)]) = some (.bp 0 0, [[.v (.int .i64 a), .v (.int .i64 b), .v (.int .i64 c)]]) := by kernel_rfl
theorem al26 (x : List AV) : allocA Try.prog [x] 26 = some (.bp 1 0, [x, [.v (.int .i64 0), .v (.int .i64 0), .v (.int .i64 0)]]) := by kernel_rfl
theorem st26 (x : List AV) (a b c : Int) : stA Try.prog 26 [x, [.v (.int .i64 0), .v (.int .i64 0), .v (.int .i64 0)]] (.bp 1 0) (.agg [.v (.int .i64 a), .v (.int .i64 b), .v (.int .i64 c)]) = some (.v undef, [x, [.v (.int .i64 a), .v (.int .i64 b), .v (.int .i64 c)]]) := by kernel_rfl
theorem fa26 (i : Nat) : fieldAddrA Try.prog 26 (.bp 0 0) 0 = some (.bp 0 0) ∧ fieldAddrA Try.prog 26 (.bp 0 0) 1 = some (.bp 0 1) ∧ fieldAddrA Try.prog 26 (.bp 0 0) 2 = some (.bp 0 2) := ⟨by kernel_rfl, by kernel_rfl, by kernel_rfl⟩
theorem l0 (a b c : Int) : loadA Try.prog 3 [[.v (.int .i64 a), .v (.int .i64 b), .v (.int .i64 c)]] (.bp 0 0) = some (.v (.int .i64 a)) := by kernel_rfl
theorem l1 (a b c : Int) : loadA Try.prog 3 [[.v (.int .i64 a), .v (.int .i64 b), .v (.int .i64 c)]] (.bp 0 1) = some (.v (.int .i64 b)) := by kernel_rfl
theorem l2 (a b c : Int) : loadA Try.prog 3 [[.v (.int .i64 a), .v (.int .i64 b), .v (.int .i64 c)]] (.bp 0 2) = some (.v (.int .i64 c)) := by kernel_rfl
theorem frz_way (bx : Bx) (a b c : Int) : frz bx true 6 (.agg [.v (.int .i64 a), .v (.int .i64 b), .v (.int .i64 c)]) = .agg [.v (.int .i64 a), .v (.int .i64 b), .v (.int .i64 c)] := rfl
theorem f12_lo (m : Nat) (k : Int) (h0 : 0 ≤ k) (g2 : k < 4) : cf (evFn cx0 ext0 (m + 2)) 12 [wayV (way k)] = some (.tup [.v (.int .i64 k), .v (.int .i64 0)]) := by
  have h10 := f10_ev m k h0 (by omega)
  have h22 := f22_ev m 0 (by omega) (by omega)
  simp only [way, if_pos g2, wayV] at h10 ⊢
  unfold cf
  rw [E12]
  have g0 : decide (k < 0) = false := decide_eq_false (by omega)
  have g1 : decide (27 ≤ k) = false := decide_eq_false (by omega)
  have q1 : ((0 : Int) == 1) = false := rfl
  have q2 : ((0 : Int) == 2) = false := rfl
  have q3 : ((0 : Int) != 0) = false := rfl
  refine ends_cf (P := Try.prog) ?_
  unfold F12
  repeat first
    | ((with_reducible apply ends_bind); case h => first | (simp only [call_f, List.map_cons, List.map_nil, frz_v, h10, h22, Option.map_some, ne26, ld26, ld26', box26, al26, st26, (fa26 0).1, (fa26 0).2.1, (fa26 0).2.2, l0, l1, l2, bin_eql, bin_neq, bin_add, bin_mul, q1, q2, q3, pv_some, bin_lss, bin_geq, gsel_tt, gsel_tf, gsel_ff, gsel_ft, pick_t, pick_f, g0, g1]; rfl) | rfl)
    | ((with_reducible apply ends_t); case h => rfl)
    | ((with_reducible apply ends_f); case h => rfl)
  exact ends_some ⟨.inl rfl, _, rfl, rfl⟩
theorem f12_mid (m : Nat) (k : Int) (g2 : ¬ k < 4) (g3 : k < 31) : cf (evFn cx0 ext0 (m + 2)) 12 [wayV (way k)] = some (.tup [.v (.int .i64 k), .v (.int .i64 0)]) := by
  have h10 := f10_ev m k (by omega) (by omega)
  have h22 := f22_ev m 0 (by omega) (by omega)
  simp only [way, if_neg g2, if_pos g3, wayV] at h10 ⊢
  unfold cf
  rw [E12]
  have g0 : decide (k - 4 < 0) = false := decide_eq_false (by omega)
  have g1 : decide (27 ≤ k - 4) = false := decide_eq_false (by omega)
  have e1 : IntKind.i64.wrap (k - 4 + 4) = k := by rw [w64 (by omega) (by omega)]; omega
  have q1 : ((1 : Int) == 1) = true := rfl
  have q2 : ((1 : Int) == 2) = false := rfl
  have q3 : ((0 : Int) != 0) = false := rfl
  refine ends_cf (P := Try.prog) ?_
  unfold F12
  repeat first
    | ((with_reducible apply ends_bind); case h => first | (simp only [call_f, List.map_cons, List.map_nil, frz_v, h10, h22, Option.map_some, ne26, ld26, ld26', box26, al26, st26, (fa26 0).1, (fa26 0).2.1, (fa26 0).2.2, l0, l1, l2, bin_eql, bin_neq, bin_add, bin_mul, q1, q2, q3, pv_some, bin_lss, bin_geq, gsel_tt, gsel_tf, gsel_ff, gsel_ft, pick_t, pick_f, g0, g1, e1]; rfl) | rfl)
    | ((with_reducible apply ends_t); case h => rfl)
    | ((with_reducible apply ends_f); case h => rfl)
  exact ends_some ⟨.inl rfl, _, rfl, rfl⟩
theorem f12_hi (m : Nat) (k : Int) (g2 : ¬ k < 4) (g3 : ¬ k < 31) (h1 : k < 760) : cf (evFn cx0 ext0 (m + 2)) 12 [wayV (way k)] = some (.tup [.v (.int .i64 k), .v (.int .i64 0)]) := by
  have h10 := f10_ev m k (by omega) (by omega)
  have h22 := f22_ev m ((k - 31) % 27) (by omega) (by omega)
  simp only [way, if_neg g2, if_neg g3, wayV] at h10 ⊢
  unfold cf
  rw [E12]
  have g0 : decide ((k - 31) / 27 < 0) = false := decide_eq_false (by omega)
  have g1 : decide (27 ≤ (k - 31) / 27) = false := decide_eq_false (by omega)
  have e1 : IntKind.i64.wrap (27 * ((k - 31) / 27)) = 27 * ((k - 31) / 27) := w64 (by omega) (by omega)
  have e2 : IntKind.i64.wrap (31 + 27 * ((k - 31) / 27)) = 31 + 27 * ((k - 31) / 27) := w64 (by omega) (by omega)
  have e3 : IntKind.i64.wrap (31 + 27 * ((k - 31) / 27) + (k - 31) % 27) = k := by rw [w64 (by omega) (by omega)]; omega
  have q1 : ((2 : Int) == 1) = false := rfl
  have q2 : ((2 : Int) == 2) = true := rfl
  have q3 : ((0 : Int) != 0) = false := rfl
  refine ends_cf (P := Try.prog) ?_
  unfold F12
  repeat first
    | ((with_reducible apply ends_bind); case h => first | (simp only [call_f, List.map_cons, List.map_nil, frz_v, h10, h22, Option.map_some, ne26, ld26, ld26', box26, al26, st26, (fa26 0).1, (fa26 0).2.1, (fa26 0).2.2, l0, l1, l2, bin_eql, bin_neq, bin_add, bin_mul, q1, q2, q3, pv_some, bin_lss, bin_geq, gsel_tt, gsel_tf, gsel_ff, gsel_ft, pick_t, pick_f, g0, g1, e1, e2, e3]; rfl) | rfl)
    | ((with_reducible apply ends_t); case h => rfl)
    | ((with_reducible apply ends_f); case h => rfl)
  exact ends_some ⟨.inl rfl, _, rfl, rfl⟩
theorem f12_ev (m : Nat) (k : Int) (h0 : 0 ≤ k) (h1 : k < 760) : cf (evFn cx0 ext0 (m + 2)) 12 [wayV (way k)] = some (.tup [.v (.int .i64 k), .v (.int .i64 0)]) := by
  by_cases g2 : k < 4
  · exact f12_lo m k h0 g2
  · by_cases g3 : k < 31
    · exact f12_mid m k g2 g3
    · exact f12_hi m k g2 g3 h1
end Go.Sy
