/-
  The law PtrsBack as the reader reads it: true for all numbers; no conditions.
-/
import Derived.Test.YtjmdohmfienfoaaBlock
namespace Go.Sy
open Go.Proofs
def among (x : Int) : Int := IntKind.i64.wrap ((IntKind.u64.wrap x).tmod 760)
theorem u64_nonneg (x : Int) : 0 ≤ IntKind.u64.wrap x := by
  simp [IntKind.wrap, IntKind.bits, IntKind.signed]
  omega
theorem among_in (x : Int) : 0 ≤ among x ∧ among x < 760 := by
  unfold among
  have := u64_nonneg x
  rw [Int.tmod_eq_emod_of_nonneg this, w64 (by omega) (by omega)]
  omega
theorem cvu (bx : Bx) (a : Int) : convA Try.prog bx 3 50 (.v (.int .i64 a)) = some (.v (.int .u64 (IntKind.u64.wrap a)), bx) := by kernel_rfl
theorem cvi (bx : Bx) (a : Int) : convA Try.prog bx 50 3 (.v (.int .u64 a)) = some (.v (.int .i64 (IntKind.i64.wrap a)), bx) := by kernel_rfl
theorem f14_ev (m : Nat) (x : Int) : cf (evFn cx0 ext0 (m + 1)) 14 [.v (.int .i64 x), .v (.int .i64 760)] = some (.v (.int .i64 (among x))) := by
  unfold cf
  rw [E14]
  have q : IntKind.u64.wrap 760 = 760 := by decide
  have q1 : decide ((760 : Int) < 1) = false := rfl
  refine ends_cf (P := Try.prog) ?_
  unfold F14
  repeat first
    | ((with_reducible apply ends_bind); case h => first | (simp only [cvu, cvi, q, q1, pv_some, bin_lss, bin_rem _ _ _ (760 : Int) _ (by decide)]; rfl) | rfl)
    | ((with_reducible apply ends_f); case h => rfl)
  exact ends_some ⟨.inl rfl, _, rfl, rfl⟩
def wayC (w : Int × Int × Int) : List AV := [.v (.int .i64 w.1), .v (.int .i64 w.2.1), .v (.int .i64 w.2.2)]
theorem al1 : allocA Try.prog [] 26 = some (.bp 0 0, [wayC (0, 0, 0)]) := by kernel_rfl
theorem al2 (x : List AV) : allocA Try.prog [x] 26 = some (.bp 1 0, [x, wayC (0, 0, 0)]) := by kernel_rfl
theorem st1 (w : Int × Int × Int) : stA Try.prog 26 [wayC (0, 0, 0)] (.bp 0 0) (wayV w) = some (.v undef, [wayC w]) := by kernel_rfl
theorem st2 (w x : Int × Int × Int) : stA Try.prog 26 [wayC w, wayC (0, 0, 0)] (.bp 1 0) (wayV x) = some (.v undef, [wayC w, wayC x]) := by kernel_rfl
theorem ld1 (w x : Int × Int × Int) : loadA Try.prog 26 [wayC w, wayC x] (.bp 0 0) = some (wayV w) := by kernel_rfl
theorem ld2 (w x : Int × Int × Int) : loadA Try.prog 26 [wayC w, wayC x] (.bp 1 0) = some (wayV x) := by kernel_rfl
theorem frzw (bx : Bx) (w : Int × Int × Int) : frz bx true 6 (wayV w) = wayV w := rfl
theorem tup0 (a b : AV) : tupA (.tup [a, b]) 0 = some a := rfl
theorem tup1 (a b : AV) : tupA (.tup [a, b]) 1 = some b := rfl
theorem not_v (b : Bool) : unA .not (.v (.bool b)) = some (.v (.bool !b)) := rfl
theorem bin_beq (a b : Bool) : binA Try.prog .eql 4 (.v (.bool a)) (.v (.bool b)) = some (.v (.bool (a == b))) := by kernel_rfl
theorem eq_w (w x : Int × Int × Int) : binA Try.prog .eql 26 (wayV w) (wayV x) = some (.v (.bool (w.1 == x.1 && (w.2.1 == x.2.1 && (w.2.2 == x.2.2 && true))))) := by kernel_rfl
theorem way_eq (k l : Int) (h0 : 0 ≤ k) (h1 : k < 760) (h2 : 0 ≤ l) (h3 : l < 760) : binA Try.prog .eql 26 (wayV (way k)) (wayV (way l)) = some (.v (.bool (k == l))) := by
  have h : ∀ w x : Int × Int × Int, binA Try.prog .eql 26 (wayV w) (wayV x) = some (.v (.bool (w.1 == x.1 && (w.2.1 == x.2.1 && (w.2.2 == x.2.2 && true))))) := by
    intro w x
    exact eq_w w x
  rw [h]
  congr 3
  rw [Bool.eq_iff_iff]
  simp only [Bool.and_eq_true, beq_iff_eq, and_true]
  unfold way
  constructor
  · split <;> split <;> (try split) <;> (try split) <;> simp <;> omega
  · rintro rfl; exact ⟨rfl, rfl, rfl⟩
theorem f5_ev (a b : Int) : cf (evFn cx0 ext0 101) 5 [.v (.int .i64 a), .v (.int .i64 b)] = some (.v (.bool true)) := by
  unfold cf
  rw [E5]
  obtain ⟨k0, k1⟩ := among_in a
  obtain ⟨l0', l1'⟩ := among_in b
  have h9 : cf (evFn cx0 ext0 100) 9 [] = _ := works_ev0 40
  have ha : cf (evFn cx0 ext0 100) 14 _ = _ := f14_ev 99 a
  have hb : cf (evFn cx0 ext0 100) 14 _ = _ := f14_ev 99 b
  generalize among a = k at *
  generalize among b = l at *
  have hk : cf (evFn cx0 ext0 100) 10 _ = _ := f10_ev 99 k k0 k1
  have hl : cf (evFn cx0 ext0 100) 10 _ = _ := f10_ev 99 l l0' l1'
  have hbk : cf (evFn cx0 ext0 100) 12 _ = _ := f12_ev 98 k k0 k1
  have hw := way_eq k l k0 k1 l0' l1'
  have e1 : IntKind.i64.wrap (64 * k) = 64 * k := w64 (by omega) (by omega)
  have e2 : IntKind.i64.wrap (64 * k + 1) = 64 * k + 1 := w64 (by omega) (by omega)
  have e3 : IntKind.i64.wrap (k + 1) = k + 1 := w64 (by omega) (by omega)
  have h71 : cf (evFn cx0 ext0 100) 7 [.v (.int .i64 (64 * k + 1))] = some (.v (.int .i64 (k + 1))) := by
    rw [f7_ev 99, bl_mid (by omega) (by omega)]
    congr 3; omega
  have h72 : cf (evFn cx0 ext0 100) 7 [.v (.int .i64 (64 * k))] = some (.v (.int .i64 k)) := by
    rw [f7_ev 99]
    by_cases hz : k = 0
    · subst hz; rfl
    · rw [bl_mid (by omega) (by omega)]
      congr 3; omega
  refine ends_cf (P := Try.prog) ?_
  unfold F5
  repeat first
    | ((with_reducible apply ends_bind); case h => first | (simp only [call_f, List.map_cons, List.map_nil, frz_v, frzw, h9, ha, hb, hk, hl, hbk, hw, h71, h72, e1, e2, e3, Option.map_some, pv_some, al1, al2, st1, st2, ld1, ld2, tup0, tup1, not_v, bin_beq, bin_eql, bin_mul, bin_add, beq_self_eq_true, gsel_tt, gsel_tf, gsel_ff, gsel_ft, pick_t, pick_f]; rfl) | rfl)
    | ((with_reducible apply ends_f); case h => rfl)
  exact ends_some ⟨.inl rfl, _, rfl, rfl⟩
end Go.Sy
