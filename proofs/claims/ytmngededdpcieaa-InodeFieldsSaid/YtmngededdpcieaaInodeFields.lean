/-
  For every input the law InodeFields returns true, does not panic, and leaves its input as it was; no conditions.
-/
import Derived.Test.YtmngededdpcieaaRows
import Derived.Test.YtmngededdpcieaaLwIno3
namespace Go.Proofs.Ytmngededdpcieaa
open Go.ChangeShapes Go.WideShapes Go.ChangeAt Go.RowKit

theorem Try.own4 : ownKnob Try.prog.godebug = none := by kernel_rfl

theorem inodeFields_law (l : List Go.Sy.AV) (hl : l.length = Try.f4.params.toList.length) (h : ∀ (j : Nat) (t : TypeId) (a : Go.Sy.AV), Try.f4.params.toList[j]? = some t → l[j]? = some a → Go.Sy.ArgFit Try.prog t a) :
    Go.Sy.cf (Go.Sy.evFn Go.Sy.cx0 Go.Sy.ext0 1000) 4 l = some (.v (.bool true)) := by
  match l, hl with
  | [a0, a1, a2], _ =>
    obtain ⟨x0, rfl, hx0, hy0⟩ := Go.Sy.fit_i64 (Go.Sy.arg1 (h 0 3 _ rfl rfl) (by kernel_rfl) (by kernel_rfl))
    obtain ⟨x1, rfl, hx1, hy1⟩ := Go.Sy.fit_i64 (Go.Sy.arg1 (h 1 3 _ rfl rfl) (by kernel_rfl) (by kernel_rfl))
    obtain ⟨y2, rfl, hz2⟩ := Go.Sy.argN (h 2 26 _ rfl rfl) (by kernel_rfl) (by kernel_rfl)
    obtain ⟨x2, hx2, rfl⟩ := Go.Sy.fits_ino hz2
    exact Go.Sy.fields_ev x0 x1 x2 hx2

set_option maxRecDepth 100000 in
theorem inodeFields_lifted (os : Os) (started : os.Started) (H : Type) (enc : TypeId × Value → H) :
    ReturnsInHanded {} Try.checked os 4 .any (Rows.inodeFieldsSpec.pre6 enc Try.prog Try.f4 Rows.inodeFieldsRow.domain false) (Rows.inodeFieldsSpec.post enc Try.prog Try.f4 false true false false) := by
  refine returnsInHanded_of_change (C := Try.checked) Try.own4 started (by kernel_rfl) Try.func4
    (ChangeSpec.witness6 (enc := enc) (C := Try.checked) false ⟨#[], #[.int .i64 0, .int .i64 0, .agg #[.int .u8 0, .int .u8 0, .int .u32 0, .int .u16 0, .int .u16 0, .int .u16 0, .int .u16 0, .int .u16 0, .int .u16 0]], []⟩ 8 (by kernel_rfl) (by kernel_rfl) (by kernel_rfl) (by kernel_rfl)) ?_
  intro W base args ds gs before hval hW _ _
  exact Go.Sy.law_any (P := Try.prog) (cx := Go.Sy.cx0) rfl Go.Sy.ext0_ok (n := 1000) (by kernel_rfl) (by kernel_rfl) (by kernel_rfl) (by kernel_rfl) rfl
    (fun H ds hl => by
      match ds, hl with
      | [d0, d1, d2], _ => rfl) rfl Try.underlying4 inodeFields_law hW hval

theorem inodeFields_holds : Rows.InodeFieldsSaid :=
  OpenClaim.holds_of_wide 4 Try.f4 rfl rfl rfl rfl rfl rfl rfl ⟨rfl, rfl, rfl, rfl, rfl⟩ rfl rfl rfl rfl rfl (by kernel_rfl) Try.func4 (by kernel_rfl)
    (of_decide_eq_true (by kernel_rfl)) (by unfold Func.isWrapper; first | (rw [if_pos (by decide +kernel)]; kernel_rfl) | (rw [if_neg (by decide +kernel)]; exact ⟨rfl, rfl⟩))
    (fun os started H enc _ => inodeFields_lifted os started H enc)

end Go.Proofs.Ytmngededdpcieaa
