/-
  For every input the law SuperMends returns true, does not panic, and leaves its input as it was; no conditions.
-/
import Derived.Test.YtdcngbkcemaklaaRows
import Derived.Test.YtdcngbkcemaklaaLwSup3
namespace Go.Proofs.Ytdcngbkcemaklaa
open Go.ChangeShapes Go.WideShapes Go.ChangeAt Go.RowKit

theorem Try.own5 : ownKnob Try.prog.godebug = none := by kernel_rfl

theorem superMends_law (l : List Go.Sy.AV) (hl : l.length = Try.f5.params.toList.length) (h : ∀ (j : Nat) (t : TypeId) (a : Go.Sy.AV), Try.f5.params.toList[j]? = some t → l[j]? = some a → Go.Sy.ArgFit Try.prog t a) :
    Go.Sy.cf (Go.Sy.evFn Go.Sy.cx0 Go.Sy.ext0 1000) 5 l = some (.v (.bool true)) := by
  match l, hl with
  | [a0], _ =>
    obtain ⟨x0, hx0, rfl⟩ := Go.Sy.fit_blks (Go.Sy.arg1 (h 0 39 _ rfl rfl) (by kernel_rfl) (by kernel_rfl))
    exact Go.Sy.mends_ev x0.1 x0.2 hx0

set_option maxRecDepth 100000 in
theorem superMends_lifted (os : Os) (started : os.Started) (H : Type) (enc : TypeId × Value → H) :
    ReturnsInHanded {} Try.checked os 5 .any (Rows.superMendsSpec.pre6 enc Try.prog Try.f5 Rows.superMendsRow.domain false) (Rows.superMendsSpec.post enc Try.prog Try.f5 false true false false) := by
  refine returnsInHanded_of_change (C := Try.checked) Try.own5 started (by kernel_rfl) Try.func5
    (ChangeSpec.witness6 (enc := enc) (C := Try.checked) false ⟨#[], #[.slice none 0 0], []⟩ 8 (by kernel_rfl) (by kernel_rfl) (by kernel_rfl) (by kernel_rfl)) ?_
  intro W base args ds gs before hval hW _ _
  exact Go.Sy.law_any (P := Try.prog) (cx := Go.Sy.cx0) rfl Go.Sy.ext0_ok (n := 1000) (by kernel_rfl) (by kernel_rfl) (by kernel_rfl) (by kernel_rfl) rfl
    (fun H ds hl => by
      match ds, hl with
      | [d0], _ => rfl) rfl Try.underlying4 superMends_law hW hval

theorem superMends_holds : Rows.SuperMendsSaid :=
  OpenClaim.holds_of_wide 5 Try.f5 rfl rfl rfl rfl rfl rfl rfl ⟨rfl, rfl, rfl, rfl, rfl⟩ rfl rfl rfl rfl rfl (by kernel_rfl) Try.func5 (by kernel_rfl)
    (of_decide_eq_true (by kernel_rfl)) (by unfold Func.isWrapper; first | (rw [if_pos (by decide +kernel)]; kernel_rfl) | (rw [if_neg (by decide +kernel)]; exact ⟨rfl, rfl⟩))
    (fun os started H enc _ => superMends_lifted os started H enc)

end Go.Proofs.Ytdcngbkcemaklaa
