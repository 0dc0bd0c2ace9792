/-
  For every input the law SuperTwice returns true, does not panic, and leaves its input as it was; no conditions.
-/
import Derived.Test.YtdcngbkcemaklaaRows
import Derived.Test.YtdcngbkcemaklaaLwSup4
namespace Go.Proofs.Ytdcngbkcemaklaa
open Go.ChangeShapes Go.WideShapes Go.ChangeAt Go.RowKit

theorem Try.own6 : ownKnob Try.prog.godebug = none := by kernel_rfl

theorem superTwice_law (l : List Go.Sy.AV) (hl : l.length = Try.f6.params.toList.length) (h : ∀ (j : Nat) (t : TypeId) (a : Go.Sy.AV), Try.f6.params.toList[j]? = some t → l[j]? = some a → Go.Sy.ArgFit Try.prog t a) :
    Go.Sy.cf (Go.Sy.evFn Go.Sy.cx0 Go.Sy.ext0 1000) 6 l = some (.v (.bool true)) := by
  match l, hl with
  | [a0, a1, a2], _ =>
    obtain ⟨y0, rfl, hz0⟩ := Go.Sy.argN (h 0 23 _ rfl rfl) (by kernel_rfl) (by kernel_rfl)
    obtain ⟨x0, hx0, rfl⟩ := Go.Sy.fits_geom hz0
    obtain ⟨x1, rfl⟩ := Go.Sy.fit_u8 (Go.Sy.arg1 (h 1 5 _ rfl rfl) (by kernel_rfl) (by kernel_rfl))
    obtain ⟨y2, rfl, hz2⟩ := Go.Sy.argN (h 2 32 _ rfl rfl) (by kernel_rfl) (by kernel_rfl)
    obtain ⟨x2, hx2, rfl⟩ := Go.Sy.fits_bytes 64 hz2
    exact Go.Sy.twice_ev x0.1 x0.2.1 x0.2.2 x1 x2 hx2

set_option maxRecDepth 100000 in
theorem superTwice_lifted (os : Os) (started : os.Started) (H : Type) (enc : TypeId × Value → H) :
    ReturnsInHanded {} Try.checked os 6 .any (Rows.superTwiceSpec.pre6 enc Try.prog Try.f6 Rows.superTwiceRow.domain false) (Rows.superTwiceSpec.post enc Try.prog Try.f6 false true false false) := by
  refine returnsInHanded_of_change (C := Try.checked) Try.own6 started (by kernel_rfl) Try.func6
    (ChangeSpec.witness6 (enc := enc) (C := Try.checked) false ⟨#[], #[.agg #[.int .i64 0, .int .i64 0, .int .i64 0], .int .u8 0, .agg #[.int .u8 0, .int .u8 0, .int .u8 0, .int .u8 0, .int .u8 0, .int .u8 0, .int .u8 0, .int .u8 0, .int .u8 0, .int .u8 0, .int .u8 0, .int .u8 0, .int .u8 0, .int .u8 0, .int .u8 0, .int .u8 0, .int .u8 0, .int .u8 0, .int .u8 0, .int .u8 0, .int .u8 0, .int .u8 0, .int .u8 0, .int .u8 0, .int .u8 0, .int .u8 0, .int .u8 0, .int .u8 0, .int .u8 0, .int .u8 0, .int .u8 0, .int .u8 0, .int .u8 0, .int .u8 0, .int .u8 0, .int .u8 0, .int .u8 0, .int .u8 0, .int .u8 0, .int .u8 0, .int .u8 0, .int .u8 0, .int .u8 0, .int .u8 0, .int .u8 0, .int .u8 0, .int .u8 0, .int .u8 0, .int .u8 0, .int .u8 0, .int .u8 0, .int .u8 0, .int .u8 0, .int .u8 0, .int .u8 0, .int .u8 0, .int .u8 0, .int .u8 0, .int .u8 0, .int .u8 0, .int .u8 0, .int .u8 0, .int .u8 0, .int .u8 0]], []⟩ 8 (by kernel_rfl) (by kernel_rfl) (by kernel_rfl) (by kernel_rfl)) ?_
  intro W base args ds gs before hval hW _ _
  exact Go.Sy.law_any (P := Try.prog) (cx := Go.Sy.cx0) rfl Go.Sy.ext0_ok (n := 1000) (by kernel_rfl) (by kernel_rfl) (by kernel_rfl) (by kernel_rfl) rfl
    (fun H ds hl => by
      match ds, hl with
      | [d0, d1, d2], _ => rfl) rfl Try.underlying4 superTwice_law hW hval

theorem superTwice_holds : Rows.SuperTwiceSaid :=
  OpenClaim.holds_of_wide 6 Try.f6 rfl rfl rfl rfl rfl rfl rfl ⟨rfl, rfl, rfl, rfl, rfl⟩ rfl rfl rfl rfl rfl (by kernel_rfl) Try.func6 (by kernel_rfl)
    (of_decide_eq_true (by kernel_rfl)) (by unfold Func.isWrapper; first | (rw [if_pos (by decide +kernel)]; kernel_rfl) | (rw [if_neg (by decide +kernel)]; exact ⟨rfl, rfl⟩))
    (fun os started H enc _ => superTwice_lifted os started H enc)

end Go.Proofs.Ytdcngbkcemaklaa
