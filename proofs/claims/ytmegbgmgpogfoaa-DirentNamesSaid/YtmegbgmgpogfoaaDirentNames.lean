/-
  For every input the law DirentNames returns true, does not panic, and leaves its input as it was; no conditions.
-/
import Derived.Test.YtmegbgmgpogfoaaRows
import Derived.Test.YtmegbgmgpogfoaaLwDir
namespace Go.Proofs.Ytmegbgmgpogfoaa
open Go.ChangeShapes Go.WideShapes Go.ChangeAt Go.RowKit

theorem Try.own4 : ownKnob Try.prog.godebug = none := by kernel_rfl

theorem direntNames_law (l : List Go.Sy.AV) (hl : l.length = Try.f4.params.toList.length) (h : ∀ (j : Nat) (t : TypeId) (a : Go.Sy.AV), Try.f4.params.toList[j]? = some t → l[j]? = some a → Go.Sy.ArgFit Try.prog t a) :
    Go.Sy.cf (Go.Sy.evFn Go.Sy.cx0 Go.Sy.ext0 1000) 4 l = some (.v (.bool true)) := by
  match l, hl with
  | [a0], _ =>
    obtain ⟨x0, rfl, hx0⟩ := Go.Sy.fit_str (Go.Sy.arg1 (h 0 9 _ rfl rfl) (by kernel_rfl) (by kernel_rfl))
    exact Go.Sy.names_ev x0

set_option maxRecDepth 100000 in
theorem direntNames_lifted (os : Os) (started : os.Started) (H : Type) (enc : TypeId × Value → H) :
    ReturnsInHanded {} Try.checked os 4 .any (Rows.direntNamesSpec.pre6 enc Try.prog Try.f4 Rows.direntNamesRow.domain false) (Rows.direntNamesSpec.post enc Try.prog Try.f4 false true false false) := by
  refine returnsInHanded_of_change (C := Try.checked) Try.own4 started (by kernel_rfl) Try.func4
    (ChangeSpec.witness6 (enc := enc) (C := Try.checked) false ⟨#[], #[.string ⟨#[]⟩], []⟩ 8 (by kernel_rfl) (by kernel_rfl) (by kernel_rfl) (by kernel_rfl)) ?_
  intro W base args ds gs before hval hW _ _
  exact Go.Sy.law_any (P := Try.prog) (cx := Go.Sy.cx0) rfl Go.Sy.ext0_ok (n := 1000) (by kernel_rfl) (by kernel_rfl) (by kernel_rfl) (by kernel_rfl) rfl
    (fun H ds hl => by
      match ds, hl with
      | [d0], _ => rfl) rfl Try.underlying4 direntNames_law hW hval

theorem direntNames_holds : Rows.DirentNamesSaid :=
  OpenClaim.holds_of_wide 4 Try.f4 rfl rfl rfl rfl rfl rfl rfl ⟨rfl, rfl, rfl, rfl, rfl⟩ rfl rfl rfl rfl rfl (by kernel_rfl) Try.func4 (by kernel_rfl)
    (of_decide_eq_true (by kernel_rfl)) (by unfold Func.isWrapper; first | (rw [if_pos (by decide +kernel)]; kernel_rfl) | (rw [if_neg (by decide +kernel)]; exact ⟨rfl, rfl⟩))
    (fun os started H enc _ => direntNames_lifted os started H enc)

end Go.Proofs.Ytmegbgmgpogfoaa
