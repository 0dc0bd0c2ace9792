/-
  Layer 05: works(); calls that may change boxes.
-/
import Derived.Test.YtjpbamjmkjmfjaaFn
namespace Go.Sy
open Go.Proofs

theorem n_tf : (!true) = false := rfl
theorem n_ft : (!false) = true := rfl
theorem works_at (n : Nat) (h : 100 ≤ n) : cf (evFn cx0 ext0 n) 5 [] = some (.v (.bool true)) := by
  obtain ⟨m, rfl⟩ : ∃ m, n = m + 100 := ⟨n - 100, by omega⟩
  kernel_rfl
end Go.Sy
