/-
  For every input the law MapsCounts returns true, does not panic, and leaves its input as it was; no conditions.
-/
import Derived.Test.YtapjcmloaeaefaaRows
import Derived.Test.YtapjcmloaeaefaaLwMaps4
namespace Go.Proofs.Ytapjcmloaeaefaa
open Go.ChangeShapes Go.WideShapes Go.ChangeAt Go.RowKit

theorem Try.own7 : ownKnob Try.prog.godebug = none := by kernel_rfl

theorem mapsCounts_law (l : List Go.Sy.AV) (hl : l.length = Try.f7.params.toList.length) (h : ∀ (j : Nat) (t : TypeId) (a : Go.Sy.AV), Try.f7.params.toList[j]? = some t → l[j]? = some a → Go.Sy.ArgFit Try.prog t a) :
    Go.Sy.cf (Go.Sy.evFn Go.Sy.cx0 Go.Sy.ext0 1000) 7 l = some (.v (.bool true)) := by
  match l, hl with
  | [a0, a1, a2, a3], _ =>
    obtain ⟨y0, rfl, hz0⟩ := Go.Sy.argN (h 0 23 _ rfl rfl) (by kernel_rfl) (by kernel_rfl)
    obtain ⟨x0, hx0, rfl⟩ := Go.Sy.fits_bytes 54 hz0
    obtain ⟨y1, rfl, hz1⟩ := Go.Sy.argN (h 1 25 _ rfl rfl) (by kernel_rfl) (by kernel_rfl)
    obtain ⟨x1, hx1, rfl⟩ := Go.Sy.fits_geom hz1
    obtain ⟨x2, rfl, hx2, hy2⟩ := Go.Sy.fit_i64 (Go.Sy.arg1 (h 2 3 _ rfl rfl) (by kernel_rfl) (by kernel_rfl))
    obtain ⟨x3, rfl, hx3, hy3⟩ := Go.Sy.fit_i64 (Go.Sy.arg1 (h 3 3 _ rfl rfl) (by kernel_rfl) (by kernel_rfl))
    exact Go.Sy.counts_ev x0 hx0 x1.1 x1.2.1 x1.2.2 x2 x3 hy3 hx3

set_option maxRecDepth 100000 in
theorem mapsCounts_lifted (os : Os) (started : os.Started) (H : Type) (enc : TypeId × Value → H) :
    ReturnsInHanded {} Try.checked os 7 .any (Rows.mapsCountsSpec.pre6 enc Try.prog Try.f7 Rows.mapsCountsRow.domain false) (Rows.mapsCountsSpec.post enc Try.prog Try.f7 false true false false) := by
  refine returnsInHanded_of_change (C := Try.checked) Try.own7 started (by kernel_rfl) Try.func7
    (ChangeSpec.witness6 (enc := enc) (C := Try.checked) false ⟨#[], #[.agg #[.int .u8 0, .int .u8 0, .int .u8 0, .int .u8 0, .int .u8 0, .int .u8 0, .int .u8 0, .int .u8 0, .int .u8 0, .int .u8 0, .int .u8 0, .int .u8 0, .int .u8 0, .int .u8 0, .int .u8 0, .int .u8 0, .int .u8 0, .int .u8 0, .int .u8 0, .int .u8 0, .int .u8 0, .int .u8 0, .int .u8 0, .int .u8 0, .int .u8 0, .int .u8 0, .int .u8 0, .int .u8 0, .int .u8 0, .int .u8 0, .int .u8 0, .int .u8 0, .int .u8 0, .int .u8 0, .int .u8 0, .int .u8 0, .int .u8 0, .int .u8 0, .int .u8 0, .int .u8 0, .int .u8 0, .int .u8 0, .int .u8 0, .int .u8 0, .int .u8 0, .int .u8 0, .int .u8 0, .int .u8 0, .int .u8 0, .int .u8 0, .int .u8 0, .int .u8 0, .int .u8 0, .int .u8 0], .agg #[.int .i64 0, .int .i64 0, .int .i64 0], .int .i64 0, .int .i64 0], []⟩ 8 (by kernel_rfl) (by kernel_rfl) (by kernel_rfl) (by kernel_rfl)) ?_
  intro W base args ds gs before hval hW _ _
  exact Go.Sy.law_any (P := Try.prog) (cx := Go.Sy.cx0) rfl Go.Sy.ext0_ok (n := 1000) (by kernel_rfl) (by kernel_rfl) (by kernel_rfl) (by kernel_rfl) rfl
    (fun H ds hl => by
      match ds, hl with
      | [d0, d1, d2, d3], _ => rfl) rfl Try.underlying4 mapsCounts_law hW hval

theorem mapsCounts_holds : Rows.MapsCountsSaid :=
  OpenClaim.holds_of_wide 7 Try.f7 rfl rfl rfl rfl rfl rfl rfl ⟨rfl, rfl, rfl, rfl, rfl⟩ rfl rfl rfl rfl rfl (by kernel_rfl) Try.func7 (by kernel_rfl)
    (of_decide_eq_true (by kernel_rfl)) (by unfold Func.isWrapper; first | (rw [if_pos (by decide +kernel)]; kernel_rfl) | (rw [if_neg (by decide +kernel)]; exact ⟨rfl, rfl⟩))
    (fun os started H enc _ => mapsCounts_lifted os started H enc)

end Go.Proofs.Ytapjcmloaeaefaa
