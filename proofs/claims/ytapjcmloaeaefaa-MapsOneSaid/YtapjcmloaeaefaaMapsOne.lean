/-
  For every input the law MapsOne returns true, does not panic, and leaves its input as it was; no conditions.
-/
import Derived.Test.YtapjcmloaeaefaaRows
import Derived.Test.YtapjcmloaeaefaaLwMaps2
namespace Go.Proofs.Ytapjcmloaeaefaa
open Go.ChangeShapes Go.WideShapes Go.ChangeAt Go.RowKit

theorem Try.own4 : ownKnob Try.prog.godebug = none := by kernel_rfl

theorem mapsOne_law (l : List Go.Sy.AV) (hl : l.length = Try.f4.params.toList.length) (h : ∀ (j : Nat) (t : TypeId) (a : Go.Sy.AV), Try.f4.params.toList[j]? = some t → l[j]? = some a → Go.Sy.ArgFit Try.prog t a) :
    Go.Sy.cf (Go.Sy.evFn Go.Sy.cx0 Go.Sy.ext0 1000) 4 l = some (.v (.bool true)) := by
  match l, hl with
  | [a0, a1, a2, a3], _ =>
    obtain ⟨y0, rfl, hz0⟩ := Go.Sy.argN (h 0 23 _ rfl rfl) (by kernel_rfl) (by kernel_rfl)
    obtain ⟨x0, hx0, rfl⟩ := Go.Sy.fits_bytes 54 hz0
    obtain ⟨x1, rfl⟩ := Go.Sy.fit_bool (Go.Sy.arg1 (h 1 4 _ rfl rfl) (by kernel_rfl) (by kernel_rfl))
    obtain ⟨x2, rfl, hx2, hy2⟩ := Go.Sy.fit_i64 (Go.Sy.arg1 (h 2 3 _ rfl rfl) (by kernel_rfl) (by kernel_rfl))
    obtain ⟨x3, rfl, hx3, hy3⟩ := Go.Sy.fit_i64 (Go.Sy.arg1 (h 3 3 _ rfl rfl) (by kernel_rfl) (by kernel_rfl))
    exact Go.Sy.one_ev x0 hx0 x1 x2 x3

set_option maxRecDepth 100000 in
theorem mapsOne_lifted (os : Os) (started : os.Started) (H : Type) (enc : TypeId × Value → H) :
    ReturnsInHanded {} Try.checked os 4 .any (Rows.mapsOneSpec.pre6 enc Try.prog Try.f4 Rows.mapsOneRow.domain false) (Rows.mapsOneSpec.post enc Try.prog Try.f4 false true false false) := by
  refine returnsInHanded_of_change (C := Try.checked) Try.own4 started (by kernel_rfl) Try.func4
    (ChangeSpec.witness6 (enc := enc) (C := Try.checked) false ⟨#[], #[.agg #[.int .u8 0, .int .u8 0, .int .u8 0, .int .u8 0, .int .u8 0, .int .u8 0, .int .u8 0, .int .u8 0, .int .u8 0, .int .u8 0, .int .u8 0, .int .u8 0, .int .u8 0, .int .u8 0, .int .u8 0, .int .u8 0, .int .u8 0, .int .u8 0, .int .u8 0, .int .u8 0, .int .u8 0, .int .u8 0, .int .u8 0, .int .u8 0, .int .u8 0, .int .u8 0, .int .u8 0, .int .u8 0, .int .u8 0, .int .u8 0, .int .u8 0, .int .u8 0, .int .u8 0, .int .u8 0, .int .u8 0, .int .u8 0, .int .u8 0, .int .u8 0, .int .u8 0, .int .u8 0, .int .u8 0, .int .u8 0, .int .u8 0, .int .u8 0, .int .u8 0, .int .u8 0, .int .u8 0, .int .u8 0, .int .u8 0, .int .u8 0, .int .u8 0, .int .u8 0, .int .u8 0, .int .u8 0], .bool false, .int .i64 0, .int .i64 0], []⟩ 8 (by kernel_rfl) (by kernel_rfl) (by kernel_rfl) (by kernel_rfl)) ?_
  intro W base args ds gs before hval hW _ _
  exact Go.Sy.law_any (P := Try.prog) (cx := Go.Sy.cx0) rfl Go.Sy.ext0_ok (n := 1000) (by kernel_rfl) (by kernel_rfl) (by kernel_rfl) (by kernel_rfl) rfl
    (fun H ds hl => by
      match ds, hl with
      | [d0, d1, d2, d3], _ => rfl) rfl Try.underlying4 mapsOne_law hW hval

theorem mapsOne_holds : Rows.MapsOneSaid :=
  OpenClaim.holds_of_wide 4 Try.f4 rfl rfl rfl rfl rfl rfl rfl ⟨rfl, rfl, rfl, rfl, rfl⟩ rfl rfl rfl rfl rfl (by kernel_rfl) Try.func4 (by kernel_rfl)
    (of_decide_eq_true (by kernel_rfl)) (by unfold Func.isWrapper; first | (rw [if_pos (by decide +kernel)]; kernel_rfl) | (rw [if_neg (by decide +kernel)]; exact ⟨rfl, rfl⟩))
    (fun os started H enc _ => mapsOne_lifted os started H enc)

end Go.Proofs.Ytapjcmloaeaefaa
