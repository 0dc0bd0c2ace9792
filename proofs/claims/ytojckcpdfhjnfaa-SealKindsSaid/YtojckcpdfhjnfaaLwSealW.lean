/-
  Layer 07's example works.
-/
import Derived.Test.YtojckcpdfhjnfaaPfSeal
namespace Go.Sy
open Go.Proofs
theorem works_at (n : Nat) (h : 600 ≤ n) : cf (evFn cx0 ext0 n) 14 [] = some (.v (.bool true)) := by
  obtain ⟨m, rfl⟩ : ∃ m, n = m + 600 := ⟨n - 600, by omega⟩
  kernel_rfl
end Go.Sy
