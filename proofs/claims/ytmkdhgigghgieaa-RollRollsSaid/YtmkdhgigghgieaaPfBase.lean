/-
  What the statements' small helpers compute, as the reader reads them.
-/
import Derived.Test.YtmkdhgigghgieaaFn
import Derived.Laws.Strings
namespace Go.Sy
open Go.Proofs

theorem t8 : sl8 Try.prog 31 = true := by kernel_rfl
theorem bytes_ev (m : Nat) (f : Bool) (b : List UInt8) (hb : b.length < 2 ^ 32) : cf (evFn cx0 ext0 (m + 1)) 42 [byt f b] = some (byt false b) := by
  unfold cf
  rw [E_base_Bytes]
  refine ends_cf (P := Try.prog) ?_
  unfold F_base_Bytes
  refine ends_bind _ rfl ?_
  refine ends_bind _ rfl ?_
  refine ends_bind _ (appV t8 0 _ _ 1 [] b 0 rfl (by omega) rfl hb (by simp) rfl) ?_
  refine ends_some ⟨.inl rfl, _, rfl, ?_⟩
  show AV.sl (0 + b.length) ((((u8l ([] ++ b)).drop 0).take ((0 + b.length) * 1)).map (frz _ false 5)) false = _
  simp only [List.nil_append, List.drop_zero, Nat.zero_add, Nat.mul_one, u8l_take, List.take_length, u8l_frz]

theorem bytes_raw (m : Nat) (f : Bool) (b : List UInt8) (hb : b.length < 2 ^ 32) : evFn cx0 ext0 (m + 1) 42 [byt f b] [] = some (.bsl 1 0 b.length 1, [[], u8l b]) := by
  rw [E_base_Bytes]
  refine ends_fin (P := Try.prog) ?_
  unfold F_base_Bytes
  refine ends_bind _ rfl ?_
  refine ends_bind _ rfl ?_
  refine ends_bind _ (appV t8 0 _ _ 1 [] b 0 rfl (by omega) rfl hb (by simp) rfl) ?_
  refine ends_some ⟨.inl rfl, _, rfl, ?_⟩
  show (AV.bsl 1 0 (0 + b.length) 1, [[], u8l ([] ++ b)]) = _
  simp

/-- a number as one from 0 to n - 1 -/
theorem among_ev (m : Nat) (x : Int) (n : Nat) (h0 : 0 < n) (h1 : n < 2 ^ 62) : ∃ k : Nat, k < n ∧ cf (evFn cx0 ext0 (m + 1)) 9 [.v (.int .i64 x), .v (.int .i64 n)] = some (.v (.int .i64 k)) := by
  have k1 : IntKind.u64.wrap (n : Int) = n := by rw [wrapu64]; omega
  have k0 : (0 : Int) ≤ IntKind.u64.wrap x := by rw [wrapu64]; omega
  have k2 : (IntKind.u64.wrap x).tmod n = IntKind.u64.wrap x % n := Int.tmod_eq_emod_of_nonneg k0
  have k3 : 0 ≤ IntKind.u64.wrap x % n := Int.emod_nonneg _ (by omega)
  have k4 : IntKind.u64.wrap x % n < n := Int.emod_lt_of_pos _ (by omega)
  refine ⟨(IntKind.u64.wrap x % n).toNat, by omega, ?_⟩
  have k5 : IntKind.i64.wrap (IntKind.u64.wrap x % n) = ((IntKind.u64.wrap x % n).toNat : Int) := by rw [wrap64]; omega
  have h2 : decide ((n : Int) < 1) = false := decide_eq_false (by omega)
  have h4 : binA Try.prog .rem 55 (.v (.int .u64 (IntKind.u64.wrap x))) (.v (.int .u64 n)) = some (.v (.int .u64 (IntKind.u64.wrap x % n))) := by
    rw [bin_rem _ _ _ _ _ (by omega), k2]
  unfold cf
  rw [E_base_Among]
  refine ends_cf (P := Try.prog) ?_
  unfold F_base_Among
  have stq := (And.intro (h2) (And.intro (k1) (h4)))
  repeat first
    | ((with_reducible apply ends_bind); case h => first | (simp only [stp, stq]; first | done | rfl) | rfl)
    | ((with_reducible apply ends_t); case h => first | rfl | (simp only [stp, stq]; done))
    | ((with_reducible apply ends_f); case h => first | rfl | (simp only [stp, stq]; done))
  exact ends_some ⟨.inl rfl, _, rfl, congrArg (fun q => AV.v (.int .i64 q)) k5⟩

end Go.Sy
