/-
  power.Use of a supply that is none, among any boxes.
-/
import Derived.Test.YtijmfjpcjceejaaPfUse
import Derived.Test.YtijmfjpcjceejaaSySnd
namespace Go.Sy
open Go.Proofs

theorem use_nilE : extC 40 [.v (.pointer none)] [] = some (.v (.int .i64 0), [[.v (.pointer none)], [.v (.int .i64 0)]]) := by kernel_rfl
noncomputable def extN : FnA := fun f args bx =>
  if f = 40 then (match args with
    | [.v (.pointer none)] => some (.v (.int .i64 0), bx)
    | _ => extC f args bx)
  else none
theorem extN_ok (f : FuncId) (args : List AV) (bx : Bx) (r : AV) (bx' : Bx) (h : extN f args bx = some (r, bx')) : Sound Try.prog f args bx r bx' := by
  unfold extN at h
  split at h
  · rename_i hf
    subst hf
    split at h
    · simp only [Option.some.injEq, Prod.mk.injEq] at h
      obtain ⟨rfl, rfl⟩ := h
      exact (extC_ok _ _ _ _ _ use_nilE).lift (by simp [isV]) bx
    · exact extC_ok _ _ _ _ _ h
  · simp at h
end Go.Sy
