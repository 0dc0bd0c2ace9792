/-
  For every input the law RollParts returns true, does not panic, and leaves its input as it was; no conditions.
-/
import Derived.Test.YtmkdhgigghgieaaRows
import Derived.Test.YtmkdhgigghgieaaLwRollP3
namespace Go.Proofs.Ytmkdhgigghgieaa
open Go.ChangeShapes Go.WideShapes Go.ChangeAt Go.RowKit

theorem Try.own6 : ownKnob Try.prog.godebug = none := by kernel_rfl

theorem rollParts_law (l : List Go.Sy.AV) (hl : l.length = Try.f6.params.toList.length) (h : ∀ (j : Nat) (t : TypeId) (a : Go.Sy.AV), Try.f6.params.toList[j]? = some t → l[j]? = some a → Go.Sy.ArgFit Try.prog t a) :
    Go.Sy.cf (Go.Sy.evFn Go.Sy.cx0 Go.Sy.ext0 1000) 6 l = some (.v (.bool true)) := by
  match l, hl with
  | [a0, a1, a2, a3], _ =>
    obtain ⟨y0, rfl, hz0⟩ := Go.Sy.argN (h 0 23 _ rfl rfl) (by kernel_rfl) (by kernel_rfl)
    obtain ⟨x0, hx0, rfl⟩ := Go.Sy.fits_bytes 64 hz0
    obtain ⟨x1, rfl⟩ := Go.Sy.fit_u8 (Go.Sy.arg1 (h 1 5 _ rfl rfl) (by kernel_rfl) (by kernel_rfl))
    obtain ⟨x2, hx2, rfl⟩ := Go.Sy.fit_pats (Go.Sy.arg1 (h 2 24 _ rfl rfl) (by kernel_rfl) (by kernel_rfl))
    obtain ⟨x3, hx3, rfl⟩ := Go.Sy.fit_bools (Go.Sy.arg1 (h 3 50 _ rfl rfl) (by kernel_rfl) (by kernel_rfl))
    exact Go.Sy.parts_ev x0 hx0 x1 x2 x3 hx3

set_option maxRecDepth 100000 in
theorem rollParts_lifted (os : Os) (started : os.Started) (H : Type) (enc : TypeId × Value → H) :
    ReturnsInHanded {} Try.checked os 6 .any (Rows.rollPartsSpec.pre6 enc Try.prog Try.f6 Rows.rollPartsRow.domain false) (Rows.rollPartsSpec.post enc Try.prog Try.f6 false true false false) := by
  refine returnsInHanded_of_change (C := Try.checked) Try.own6 started (by kernel_rfl) Try.func6
    (ChangeSpec.witness6 (enc := enc) (C := Try.checked) false ⟨#[], #[.agg #[.int .u8 0, .int .u8 0, .int .u8 0, .int .u8 0, .int .u8 0, .int .u8 0, .int .u8 0, .int .u8 0, .int .u8 0, .int .u8 0, .int .u8 0, .int .u8 0, .int .u8 0, .int .u8 0, .int .u8 0, .int .u8 0, .int .u8 0, .int .u8 0, .int .u8 0, .int .u8 0, .int .u8 0, .int .u8 0, .int .u8 0, .int .u8 0, .int .u8 0, .int .u8 0, .int .u8 0, .int .u8 0, .int .u8 0, .int .u8 0, .int .u8 0, .int .u8 0, .int .u8 0, .int .u8 0, .int .u8 0, .int .u8 0, .int .u8 0, .int .u8 0, .int .u8 0, .int .u8 0, .int .u8 0, .int .u8 0, .int .u8 0, .int .u8 0, .int .u8 0, .int .u8 0, .int .u8 0, .int .u8 0, .int .u8 0, .int .u8 0, .int .u8 0, .int .u8 0, .int .u8 0, .int .u8 0, .int .u8 0, .int .u8 0, .int .u8 0, .int .u8 0, .int .u8 0, .int .u8 0, .int .u8 0, .int .u8 0, .int .u8 0, .int .u8 0], .int .u8 0, .slice none 0 0, .slice none 0 0], []⟩ 8 (by kernel_rfl) (by kernel_rfl) (by kernel_rfl) (by kernel_rfl)) ?_
  intro W base args ds gs before hval hW _ _
  exact Go.Sy.law_any (P := Try.prog) (cx := Go.Sy.cx0) rfl Go.Sy.ext0_ok (n := 1000) (by kernel_rfl) (by kernel_rfl) (by kernel_rfl) (by kernel_rfl) rfl
    (fun H ds hl => by
      match ds, hl with
      | [d0, d1, d2, d3], _ => rfl) rfl Try.underlying4 rollParts_law hW hval

theorem rollParts_holds : Rows.RollPartsSaid :=
  OpenClaim.holds_of_wide 6 Try.f6 rfl rfl rfl rfl rfl rfl rfl ⟨rfl, rfl, rfl, rfl, rfl⟩ rfl rfl rfl rfl rfl (by kernel_rfl) Try.func6 (by kernel_rfl)
    (of_decide_eq_true (by kernel_rfl)) (by unfold Func.isWrapper; first | (rw [if_pos (by decide +kernel)]; kernel_rfl) | (rw [if_neg (by decide +kernel)]; exact ⟨rfl, rfl⟩))
    (fun os started H enc _ => rollParts_lifted os started H enc)

end Go.Proofs.Ytmkdhgigghgieaa
