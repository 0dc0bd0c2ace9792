/-
  What the statements' small helpers compute, as the reader reads them.
-/
import Derived.Test.YtmegbgmgpogfoaaFn
import Derived.Laws.Strings
namespace Go.Sy
open Go.Proofs

theorem t8 : sl8 Try.prog 28 = true := by kernel_rfl
/-- a number as one from 0 to n - 1 -/
theorem among_ev (m : Nat) (x : Int) (n : Nat) (h0 : 0 < n) (h1 : n < 2 ^ 62) : ∃ k : Nat, k < n ∧ cf (evFn cx0 ext0 (m + 1)) 14 [.v (.int .i64 x), .v (.int .i64 n)] = some (.v (.int .i64 k)) := by
  have k1 : IntKind.u64.wrap (n : Int) = n := by rw [wrapu64]; omega
  have k0 : (0 : Int) ≤ IntKind.u64.wrap x := by rw [wrapu64]; omega
  have k2 : (IntKind.u64.wrap x).tmod n = IntKind.u64.wrap x % n := Int.tmod_eq_emod_of_nonneg k0
  have k3 : 0 ≤ IntKind.u64.wrap x % n := Int.emod_nonneg _ (by omega)
  have k4 : IntKind.u64.wrap x % n < n := Int.emod_lt_of_pos _ (by omega)
  refine ⟨(IntKind.u64.wrap x % n).toNat, by omega, ?_⟩
  have k5 : IntKind.i64.wrap (IntKind.u64.wrap x % n) = ((IntKind.u64.wrap x % n).toNat : Int) := by rw [wrap64]; omega
  have h2 : decide ((n : Int) < 1) = false := decide_eq_false (by omega)
  have h4 : binA Try.prog .rem 57 (.v (.int .u64 (IntKind.u64.wrap x))) (.v (.int .u64 n)) = some (.v (.int .u64 (IntKind.u64.wrap x % n))) := by
    rw [bin_rem _ _ _ _ _ (by omega), k2]
  unfold cf
  rw [E_base_Among]
  refine ends_cf (P := Try.prog) ?_
  unfold F_base_Among
  have stq := (And.intro (h2) (And.intro (k1) (h4)))
  repeat first
    | ((with_reducible apply ends_bind); case h => first | (simp only [stp, stq]; first | done | rfl) | rfl)
    | ((with_reducible apply ends_t); case h => first | rfl | (simp only [stp, stq]; done))
    | ((with_reducible apply ends_f); case h => first | rfl | (simp only [stp, stq]; done))
  exact ends_some ⟨.inl rfl, _, rfl, congrArg (fun q => AV.v (.int .i64 q)) k5⟩

theorem conv_str (bx : Bx) (n : Nat) (b : List UInt8) (f : Bool) (hn : n = b.length) : convA Try.prog bx 28 9 (.sl n (u8l b) f) = some (.v (.string ⟨b.toArray⟩), bx) := by
  subst hn
  have h : convA Try.prog bx 28 9 (.sl b.length (u8l b) f) = if inA Try.prog 5 = some .u8 ∧ (u8l b).length = b.length then (bytesA (u8l b)).map fun l => (.v (.string ⟨l.toArray⟩), bx) else none := by kernel_rfl
  rw [h, if_pos ⟨by kernel_rfl, u8l_len b⟩, u8l_bytes]
  rfl
theorem str_eq (a b : List UInt8) : binA Try.prog .eql 9 (.v (.string ⟨a.toArray⟩)) (.v (.string ⟨b.toArray⟩)) = some (.v (.bool (a == b))) := by
  have h : binA Try.prog .eql 9 (.v (.string ⟨a.toArray⟩)) (.v (.string ⟨b.toArray⟩)) = some (.v (.bool ((⟨a.toArray⟩ : ByteArray).toList == (⟨b.toArray⟩ : ByteArray).toList))) := by kernel_rfl
  rw [h, ByteArray.toList_mk, ByteArray.toList_mk]
theorem same_ev (m : Nat) (a b : List UInt8) (f g : Bool) : cf (evFn cx0 ext0 (m + 1)) 10 [byt f a, byt g b] = some (.v (.bool (a == b))) := by
  unfold cf
  rw [E_base_SameBytes]
  refine ends_cf (P := Try.prog) ?_
  unfold F_base_SameBytes
  have c1 := fun bx => conv_str bx a.length a f rfl
  have c2 := fun bx => conv_str bx b.length b g rfl
  have e1 := str_eq a b
  have stq := (And.intro (c1) (And.intro (c2) (e1)))
  repeat first
    | ((with_reducible apply ends_bind); case h => first | (simp only [stp, stq]; first | done | rfl) | rfl)
    | ((with_reducible apply ends_t); case h => first | rfl | (simp only [stp, stq]; done))
    | ((with_reducible apply ends_f); case h => first | rfl | (simp only [stp, stq]; done))
  exact ends_some ⟨.inl rfl, _, rfl, rfl⟩
end Go.Sy
