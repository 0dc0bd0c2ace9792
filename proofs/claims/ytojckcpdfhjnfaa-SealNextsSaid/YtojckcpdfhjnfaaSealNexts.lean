/-
  For every input the law SealNexts returns true, does not panic, and leaves its input as it was; no conditions.
-/
import Derived.Test.YtojckcpdfhjnfaaRows
import Derived.Test.YtojckcpdfhjnfaaLwSeal
namespace Go.Proofs.Ytojckcpdfhjnfaa
open Go.ChangeShapes Go.WideShapes Go.ChangeAt Go.RowKit

theorem Try.own7 : ownKnob Try.prog.godebug = none := by kernel_rfl

theorem sealNexts_law (l : List Go.Sy.AV) (hl : l.length = Try.f7.params.toList.length) (h : ∀ (j : Nat) (t : TypeId) (a : Go.Sy.AV), Try.f7.params.toList[j]? = some t → l[j]? = some a → Go.Sy.ArgFit Try.prog t a) :
    Go.Sy.cf (Go.Sy.evFn Go.Sy.cx0 Go.Sy.ext0 1000) 7 l = some (.v (.bool true)) := by
  match l, hl with
  | [a0, a1, a2, a3], _ =>
    obtain ⟨x0, rfl, hx0, hy0⟩ := Go.Sy.fit_i64 (Go.Sy.arg1 (h 0 3 _ rfl rfl) (by kernel_rfl) (by kernel_rfl))
    obtain ⟨y1, rfl, hz1⟩ := Go.Sy.argN (h 1 26 _ rfl rfl) (by kernel_rfl) (by kernel_rfl)
    obtain ⟨x1, hx1, rfl⟩ := Go.Sy.fits_bytes 64 hz1
    obtain ⟨y2, rfl, hz2⟩ := Go.Sy.argN (h 2 24 _ rfl rfl) (by kernel_rfl) (by kernel_rfl)
    obtain ⟨x2, hx2, rfl⟩ := Go.Sy.fits_bytes 54 hz2
    obtain ⟨y3, rfl, hz3⟩ := Go.Sy.argN (h 3 26 _ rfl rfl) (by kernel_rfl) (by kernel_rfl)
    obtain ⟨x3, hx3, rfl⟩ := Go.Sy.fits_bytes 64 hz3
    exact Go.Sy.nexts_ev x0 x1 x2 x3 hx1 hx2 hx3

set_option maxRecDepth 100000 in
theorem sealNexts_lifted (os : Os) (started : os.Started) (H : Type) (enc : TypeId × Value → H) :
    ReturnsInHanded {} Try.checked os 7 .any (Rows.sealNextsSpec.pre6 enc Try.prog Try.f7 Rows.sealNextsRow.domain false) (Rows.sealNextsSpec.post enc Try.prog Try.f7 false true false false) := by
  refine returnsInHanded_of_change (C := Try.checked) Try.own7 started (by kernel_rfl) Try.func7
    (ChangeSpec.witness6 (enc := enc) (C := Try.checked) false ⟨#[], #[.int .i64 0, .agg #[.int .u8 0, .int .u8 0, .int .u8 0, .int .u8 0, .int .u8 0, .int .u8 0, .int .u8 0, .int .u8 0, .int .u8 0, .int .u8 0, .int .u8 0, .int .u8 0, .int .u8 0, .int .u8 0, .int .u8 0, .int .u8 0, .int .u8 0, .int .u8 0, .int .u8 0, .int .u8 0, .int .u8 0, .int .u8 0, .int .u8 0, .int .u8 0, .int .u8 0, .int .u8 0, .int .u8 0, .int .u8 0, .int .u8 0, .int .u8 0, .int .u8 0, .int .u8 0, .int .u8 0, .int .u8 0, .int .u8 0, .int .u8 0, .int .u8 0, .int .u8 0, .int .u8 0, .int .u8 0, .int .u8 0, .int .u8 0, .int .u8 0, .int .u8 0, .int .u8 0, .int .u8 0, .int .u8 0, .int .u8 0, .int .u8 0, .int .u8 0, .int .u8 0, .int .u8 0, .int .u8 0, .int .u8 0, .int .u8 0, .int .u8 0, .int .u8 0, .int .u8 0, .int .u8 0, .int .u8 0, .int .u8 0, .int .u8 0, .int .u8 0, .int .u8 0], .agg #[.int .u8 0, .int .u8 0, .int .u8 0, .int .u8 0, .int .u8 0, .int .u8 0, .int .u8 0, .int .u8 0, .int .u8 0, .int .u8 0, .int .u8 0, .int .u8 0, .int .u8 0, .int .u8 0, .int .u8 0, .int .u8 0, .int .u8 0, .int .u8 0, .int .u8 0, .int .u8 0, .int .u8 0, .int .u8 0, .int .u8 0, .int .u8 0, .int .u8 0, .int .u8 0, .int .u8 0, .int .u8 0, .int .u8 0, .int .u8 0, .int .u8 0, .int .u8 0, .int .u8 0, .int .u8 0, .int .u8 0, .int .u8 0, .int .u8 0, .int .u8 0, .int .u8 0, .int .u8 0, .int .u8 0, .int .u8 0, .int .u8 0, .int .u8 0, .int .u8 0, .int .u8 0, .int .u8 0, .int .u8 0, .int .u8 0, .int .u8 0, .int .u8 0, .int .u8 0, .int .u8 0, .int .u8 0], .agg #[.int .u8 0, .int .u8 0, .int .u8 0, .int .u8 0, .int .u8 0, .int .u8 0, .int .u8 0, .int .u8 0, .int .u8 0, .int .u8 0, .int .u8 0, .int .u8 0, .int .u8 0, .int .u8 0, .int .u8 0, .int .u8 0, .int .u8 0, .int .u8 0, .int .u8 0, .int .u8 0, .int .u8 0, .int .u8 0, .int .u8 0, .int .u8 0, .int .u8 0, .int .u8 0, .int .u8 0, .int .u8 0, .int .u8 0, .int .u8 0, .int .u8 0, .int .u8 0, .int .u8 0, .int .u8 0, .int .u8 0, .int .u8 0, .int .u8 0, .int .u8 0, .int .u8 0, .int .u8 0, .int .u8 0, .int .u8 0, .int .u8 0, .int .u8 0, .int .u8 0, .int .u8 0, .int .u8 0, .int .u8 0, .int .u8 0, .int .u8 0, .int .u8 0, .int .u8 0, .int .u8 0, .int .u8 0, .int .u8 0, .int .u8 0, .int .u8 0, .int .u8 0, .int .u8 0, .int .u8 0, .int .u8 0, .int .u8 0, .int .u8 0, .int .u8 0]], []⟩ 8 (by kernel_rfl) (by kernel_rfl) (by kernel_rfl) (by kernel_rfl)) ?_
  intro W base args ds gs before hval hW _ _
  exact Go.Sy.law_any (P := Try.prog) (cx := Go.Sy.cx0) rfl Go.Sy.ext0_ok (n := 1000) (by kernel_rfl) (by kernel_rfl) (by kernel_rfl) (by kernel_rfl) rfl
    (fun H ds hl => by
      match ds, hl with
      | [d0, d1, d2, d3], _ => rfl) rfl Try.underlying4 sealNexts_law hW hval

theorem sealNexts_holds : Rows.SealNextsSaid :=
  OpenClaim.holds_of_wide 7 Try.f7 rfl rfl rfl rfl rfl rfl rfl ⟨rfl, rfl, rfl, rfl, rfl⟩ rfl rfl rfl rfl rfl (by kernel_rfl) Try.func7 (by kernel_rfl)
    (of_decide_eq_true (by kernel_rfl)) (by unfold Func.isWrapper; first | (rw [if_pos (by decide +kernel)]; kernel_rfl) | (rw [if_neg (by decide +kernel)]; exact ⟨rfl, rfl⟩))
    (fun os started H enc _ => sealNexts_lifted os started H enc)

end Go.Proofs.Ytojckcpdfhjnfaa
