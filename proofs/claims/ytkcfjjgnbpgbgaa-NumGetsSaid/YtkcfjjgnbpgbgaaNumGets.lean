/-
  For every input the law NumGets returns true, does not panic, and leaves its input as it was; no conditions.
-/
import Derived.Test.YtkcfjjgnbpgbgaaRows
import Derived.Test.YtkcfjjgnbpgbgaaLwNum
namespace Go.Proofs.Ytkcfjjgnbpgbgaa
open Go.ChangeShapes Go.WideShapes Go.ChangeAt Go.RowKit

theorem Try.own7 : ownKnob Try.prog.godebug = none := by kernel_rfl

theorem numGets_law (l : List Go.Sy.AV) (hl : l.length = Try.f7.params.toList.length) (h : ∀ (j : Nat) (t : TypeId) (a : Go.Sy.AV), Try.f7.params.toList[j]? = some t → l[j]? = some a → Go.Sy.ArgFit Try.prog t a) :
    Go.Sy.cf (Go.Sy.evFn Go.Sy.cx0 Go.Sy.ext0 1000) 7 l = some (.v (.bool true)) := by
  match l, hl with
  | [a0, a1, a2], _ =>
    obtain ⟨x0, hx0, rfl⟩ := Go.Sy.fit_bytes (Go.Sy.arg1 (h 0 22 _ rfl rfl) (by kernel_rfl) (by kernel_rfl))
    obtain ⟨x1, rfl, hx1, hy1⟩ := Go.Sy.fit_i64 (Go.Sy.arg1 (h 1 3 _ rfl rfl) (by kernel_rfl) (by kernel_rfl))
    obtain ⟨x2, rfl, hx2⟩ := Go.Sy.fit_u32 (Go.Sy.arg1 (h 2 36 _ rfl rfl) (by kernel_rfl) (by kernel_rfl))
    exact Go.Sy.gets_ev x0 x1 hy1 x2 hx2

set_option maxRecDepth 100000 in
theorem numGets_lifted (os : Os) (started : os.Started) (H : Type) (enc : TypeId × Value → H) :
    ReturnsInHanded {} Try.checked os 7 .any (Rows.numGetsSpec.pre6 enc Try.prog Try.f7 Rows.numGetsRow.domain false) (Rows.numGetsSpec.post enc Try.prog Try.f7 false true false false) := by
  refine returnsInHanded_of_change (C := Try.checked) Try.own7 started (by kernel_rfl) Try.func7
    (ChangeSpec.witness6 (enc := enc) (C := Try.checked) false ⟨#[], #[.slice none 0 0, .int .i64 0, .int .u32 0], []⟩ 8 (by kernel_rfl) (by kernel_rfl) (by kernel_rfl) (by kernel_rfl)) ?_
  intro W base args ds gs before hval hW _ _
  exact Go.Sy.law_any (P := Try.prog) (cx := Go.Sy.cx0) rfl Go.Sy.ext0_ok (n := 1000) (by kernel_rfl) (by kernel_rfl) (by kernel_rfl) (by kernel_rfl) rfl
    (fun H ds hl => by
      match ds, hl with
      | [d0, d1, d2], _ => rfl) rfl Try.underlying4 numGets_law hW hval

theorem numGets_holds : Rows.NumGetsSaid :=
  OpenClaim.holds_of_wide 7 Try.f7 rfl rfl rfl rfl rfl rfl rfl ⟨rfl, rfl, rfl, rfl, rfl⟩ rfl rfl rfl rfl rfl (by kernel_rfl) Try.func7 (by kernel_rfl)
    (of_decide_eq_true (by kernel_rfl)) (by unfold Func.isWrapper; first | (rw [if_pos (by decide +kernel)]; kernel_rfl) | (rw [if_neg (by decide +kernel)]; exact ⟨rfl, rfl⟩))
    (fun os started H enc _ => numGets_lifted os started H enc)

end Go.Proofs.Ytkcfjjgnbpgbgaa
