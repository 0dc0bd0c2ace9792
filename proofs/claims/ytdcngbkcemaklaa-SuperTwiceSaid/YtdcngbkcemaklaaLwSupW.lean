/-
  Layer 08's example works.
-/
import Derived.Test.YtdcngbkcemaklaaPfSup2
namespace Go.Sy
open Go.Proofs Num Crc Seal
theorem works_at (n : Nat) (h : 500 ≤ n) : cf (evFn cx0 ext0 n) 13 [] = some (.v (.bool true)) := by
  obtain ⟨m, rfl⟩ : ∃ m, n = m + 500 := ⟨n - 500, by omega⟩
  kernel_rfl
end Go.Sy
