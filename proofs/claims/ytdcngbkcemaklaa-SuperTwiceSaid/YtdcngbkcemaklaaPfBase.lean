/-
  What the statements' small helpers compute, as the reader reads them.
-/
import Derived.Test.YtdcngbkcemaklaaFn
import Derived.Laws.Strings
namespace Go.Sy
open Go.Proofs

theorem t8 : sl8 Try.prog 58 = true := by kernel_rfl
end Go.Sy
