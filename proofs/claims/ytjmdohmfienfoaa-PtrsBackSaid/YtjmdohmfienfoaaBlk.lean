/-
  The law PtrsBlocks as the reader reads it: true for every number; no conditions.
-/
import Derived.Test.YtjmdohmfienfoaaFn
namespace Go.Sy
open Go.Proofs

theorem works_ev0 (m : Nat) : cf (evFn cx0 ext0 (m + 60)) 9 [] = some (.v (.bool true)) := by kernel_rfl
def bl (x : Int) : Int := if x ≤ 0 then 0 else IntKind.i64.wrap (IntKind.i64.wrap ((IntKind.i64.wrap (x - 1)).tdiv 64) + 1)
theorem f7_ev (m : Nat) (x : Int) : cf (evFn cx0 ext0 (m + 1)) 7 [.v (.int .i64 x)] = some (.v (.int .i64 (bl x))) := by
  unfold cf bl
  rw [E7]
  by_cases hx : x ≤ 0
  · simp only [F7, pv_some, bin_leq, Option.bind_some, decide_eq_true hx, cond_t, fin_ret, res_one, get_hit, Option.map_some, resA_one, frz_v, if_pos hx]
  · simp only [F7, pv_some, bin_leq, bin_sub, bin_add, bin_quo _ _ _ (64 : Int) _ (by decide), Option.bind_some, decide_eq_false hx, cond_f, fin_ret, res_one, get_hit, Option.map_some, resA_one, frz_v, if_neg hx]
theorem f8_ev (m : Nat) (x : Int) : cf (evFn cx0 ext0 (m + 1)) 8 [.v (.int .i64 x)] = some (.v (.int .i64 (bl x))) := by
  unfold cf bl
  rw [E8]
  by_cases hx : x ≤ 0
  · simp only [F8, pv_some, bin_leq, Option.bind_some, decide_eq_true hx, cond_t, fin_ret, res_one, get_hit, Option.map_some, resA_one, frz_v, if_pos hx]
  · simp only [F8, pv_some, bin_leq, bin_sub, bin_add, bin_quo _ _ _ (64 : Int) _ (by decide), Option.bind_some, decide_eq_false hx, cond_f, fin_ret, res_one, get_hit, Option.map_some, resA_one, frz_v, if_neg hx]
theorem w64 {x : Int} (h1 : - 2 ^ 63 ≤ x) (h2 : x < 2 ^ 63) : IntKind.i64.wrap x = x := wrap_i64 h1 h2
theorem bl_mid {x : Int} (h1 : 0 < x) (h2 : x ≤ 1099511627776) : bl x = (x - 1) / 64 + 1 := by
  unfold bl
  rw [if_neg (by omega), w64 (x := x - 1) (by omega) (by omega), Int.tdiv_eq_ediv_of_nonneg (by omega), w64 (x := (x - 1) / 64) (by omega) (by omega), w64 (by omega) (by omega)]
theorem f3_ev (x : Int) : cf (evFn cx0 ext0 101) 3 [.v (.int .i64 x)] = some (.v (.bool true)) := by
  unfold cf
  rw [E3]
  have h9 : cf (evFn cx0 ext0 100) 9 [] = _ := works_ev0 40
  have h7 : cf (evFn cx0 ext0 100) 7 _ = _ := f7_ev 99 x
  have h8 : cf (evFn cx0 ext0 100) 8 _ = _ := f8_ev 99 x
  by_cases hx : x ≤ 0
  · refine ends_cf (P := Try.prog) ?_
    unfold F3
    repeat refine ends_bind _ (by simp only [call_f, List.map_cons, List.map_nil, frz_v, h7, h8, h9, Option.map_some, pv_some, gsel_tt, gsel_tf, gsel_ff, gsel_ft, gsel_u, pick_t, pick_f, bin_eql, bin_leq, bin_gtr, bin_geq, bin_lss, bin_mul, bin_sub, beq_self_eq_true, decide_eq_true hx]; rfl) ?_
    exact ends_some ⟨.inl rfl, _, rfl, rfl⟩
  · by_cases h2 : 1099511627776 < x
    · refine ends_cf (P := Try.prog) ?_
      unfold F3
      repeat refine ends_bind _ (by simp only [call_f, List.map_cons, List.map_nil, frz_v, h7, h8, h9, Option.map_some, pv_some, gsel_tt, gsel_tf, gsel_ff, gsel_ft, gsel_u, pick_t, pick_f, bin_eql, bin_leq, bin_gtr, bin_geq, bin_lss, bin_mul, bin_sub, beq_self_eq_true, decide_eq_false hx, decide_eq_true h2]; rfl) ?_
      exact ends_some ⟨.inl rfl, _, rfl, rfl⟩
    · have hb := bl_mid (x := x) (by omega) (by omega)
      have g1 : x ≤ IntKind.i64.wrap (64 * bl x) := by rw [w64 (by omega) (by omega)]; omega
      have g2 : IntKind.i64.wrap (64 * IntKind.i64.wrap (bl x - 1)) < x := by rw [w64 (x := bl x - 1) (by omega) (by omega), w64 (by omega) (by omega)]; omega
      refine ends_cf (P := Try.prog) ?_
      unfold F3
      repeat refine ends_bind _ (by simp only [call_f, List.map_cons, List.map_nil, frz_v, h7, h8, h9, Option.map_some, pv_some, gsel_tt, gsel_tf, gsel_ff, gsel_ft, gsel_u, pick_t, pick_f, bin_eql, bin_leq, bin_gtr, bin_geq, bin_lss, bin_mul, bin_sub, beq_self_eq_true, decide_eq_false hx, decide_eq_false h2, decide_eq_true g1, decide_eq_true g2]; rfl) ?_
      exact ends_some ⟨.inl rfl, _, rfl, rfl⟩

end Go.Sy
