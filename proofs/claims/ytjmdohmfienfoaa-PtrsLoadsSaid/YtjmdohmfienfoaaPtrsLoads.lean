/-
  For every input the law PtrsLoads returns true, does not panic, and leaves its input as it was; no conditions.
-/
import Derived.Test.YtjmdohmfienfoaaRows
import Derived.Test.YtjmdohmfienfoaaLwPtrL
namespace Go.Proofs.Ytjmdohmfienfoaa
open Go.ChangeShapes Go.WideShapes Go.ChangeAt Go.RowKit

theorem Try.own6 : ownKnob Try.prog.godebug = none := by kernel_rfl

theorem ptrsLoads_law (l : List Go.Sy.AV) (hl : l.length = Try.f6.params.toList.length) (h : ∀ (j : Nat) (t : TypeId) (a : Go.Sy.AV), Try.f6.params.toList[j]? = some t → l[j]? = some a → Go.Sy.ArgFit Try.prog t a) :
    Go.Sy.cf (Go.Sy.evFn Go.Sy.cx0 Go.Sy.ext0 1000) 6 l = some (.v (.bool true)) := by
  match l, hl with
  | [a0, a1, a2], _ =>
    obtain ⟨y0, rfl, hz0⟩ := Go.Sy.argN (h 0 40 _ rfl rfl) (by kernel_rfl) (by kernel_rfl)
    obtain ⟨x0, hx0, rfl⟩ := Go.Sy.fits_bytes 54 hz0
    obtain ⟨x1, rfl, hx1, hy1⟩ := Go.Sy.fit_i64 (Go.Sy.arg1 (h 1 3 _ rfl rfl) (by kernel_rfl) (by kernel_rfl))
    obtain ⟨x2, rfl, hx2⟩ := Go.Sy.fit_u16 (Go.Sy.arg1 (h 2 41 _ rfl rfl) (by kernel_rfl) (by kernel_rfl))
    exact Go.Sy.loads_ev x0 hx0 x1 x2 hx2

set_option maxRecDepth 100000 in
theorem ptrsLoads_lifted (os : Os) (started : os.Started) (H : Type) (enc : TypeId × Value → H) :
    ReturnsInHanded {} Try.checked os 6 .any (Rows.ptrsLoadsSpec.pre6 enc Try.prog Try.f6 Rows.ptrsLoadsRow.domain false) (Rows.ptrsLoadsSpec.post enc Try.prog Try.f6 false true false false) := by
  refine returnsInHanded_of_change (C := Try.checked) Try.own6 started (by kernel_rfl) Try.func6
    (ChangeSpec.witness6 (enc := enc) (C := Try.checked) false ⟨#[], #[.agg #[.int .u8 0, .int .u8 0, .int .u8 0, .int .u8 0, .int .u8 0, .int .u8 0, .int .u8 0, .int .u8 0, .int .u8 0, .int .u8 0, .int .u8 0, .int .u8 0, .int .u8 0, .int .u8 0, .int .u8 0, .int .u8 0, .int .u8 0, .int .u8 0, .int .u8 0, .int .u8 0, .int .u8 0, .int .u8 0, .int .u8 0, .int .u8 0, .int .u8 0, .int .u8 0, .int .u8 0, .int .u8 0, .int .u8 0, .int .u8 0, .int .u8 0, .int .u8 0, .int .u8 0, .int .u8 0, .int .u8 0, .int .u8 0, .int .u8 0, .int .u8 0, .int .u8 0, .int .u8 0, .int .u8 0, .int .u8 0, .int .u8 0, .int .u8 0, .int .u8 0, .int .u8 0, .int .u8 0, .int .u8 0, .int .u8 0, .int .u8 0, .int .u8 0, .int .u8 0, .int .u8 0, .int .u8 0], .int .i64 0, .int .u16 0], []⟩ 8 (by kernel_rfl) (by kernel_rfl) (by kernel_rfl) (by kernel_rfl)) ?_
  intro W base args ds gs before hval hW _ _
  exact Go.Sy.law_any (P := Try.prog) (cx := Go.Sy.cx0) rfl Go.Sy.ext0_ok (n := 1000) (by kernel_rfl) (by kernel_rfl) (by kernel_rfl) (by kernel_rfl) rfl
    (fun H ds hl => by
      match ds, hl with
      | [d0, d1, d2], _ => rfl) rfl Try.underlying4 ptrsLoads_law hW hval

theorem ptrsLoads_holds : Rows.PtrsLoadsSaid :=
  OpenClaim.holds_of_wide 6 Try.f6 rfl rfl rfl rfl rfl rfl rfl ⟨rfl, rfl, rfl, rfl, rfl⟩ rfl rfl rfl rfl rfl (by kernel_rfl) Try.func6 (by kernel_rfl)
    (of_decide_eq_true (by kernel_rfl)) (by unfold Func.isWrapper; first | (rw [if_pos (by decide +kernel)]; kernel_rfl) | (rw [if_neg (by decide +kernel)]; exact ⟨rfl, rfl⟩))
    (fun os started H enc _ => ptrsLoads_lifted os started H enc)

end Go.Proofs.Ytjmdohmfienfoaa
