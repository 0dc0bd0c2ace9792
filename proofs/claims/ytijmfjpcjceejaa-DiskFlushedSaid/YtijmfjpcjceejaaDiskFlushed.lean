/-
  For every input the law DiskFlushed returns true, does not panic, and leaves its input as it was; no conditions.
-/
import Derived.Test.YtijmfjpcjceejaaRows
import Derived.Test.YtijmfjpcjceejaaLwFlsA
namespace Go.Proofs.Ytijmfjpcjceejaa
open Go.ChangeShapes Go.WideShapes Go.ChangeAt Go.RowKit

theorem Try.own3 : ownKnob Try.prog.godebug = none := by kernel_rfl

theorem diskFlushed_law (l : List Go.Sy.AV) (hl : l.length = Try.f3.params.toList.length) (h : ∀ (j : Nat) (t : TypeId) (a : Go.Sy.AV), Try.f3.params.toList[j]? = some t → l[j]? = some a → Go.Sy.ArgFit Try.prog t a) :
    Go.Sy.cf (Go.Sy.evFn Go.Sy.cx0 Go.Sy.ext0 1000) 3 l = some (.v (.bool true)) := by
  match l, hl with
  | [a0, a1, a2], _ =>
    obtain ⟨x0, hx0, rfl⟩ := Go.Sy.fit_acts (Go.Sy.arg1 (h 0 22 _ rfl rfl) (by kernel_rfl) (by kernel_rfl))
    obtain ⟨x1, hx1, rfl⟩ := Go.Sy.fit_acts (Go.Sy.arg1 (h 1 22 _ rfl rfl) (by kernel_rfl) (by kernel_rfl))
    obtain ⟨x2, hx2, rfl⟩ := Go.Sy.fit_ints (Go.Sy.arg1 (h 2 23 _ rfl rfl) (by kernel_rfl) (by kernel_rfl))
    exact Go.Sy.flushed_law hx0 hx1

set_option maxRecDepth 100000 in
theorem diskFlushed_lifted (os : Os) (started : os.Started) (H : Type) (enc : TypeId × Value → H) :
    ReturnsInHanded {} Try.checked os 3 .any (Rows.diskFlushedSpec.pre6 enc Try.prog Try.f3 Rows.diskFlushedRow.domain false) (Rows.diskFlushedSpec.post enc Try.prog Try.f3 false true false false) := by
  refine returnsInHanded_of_change (C := Try.checked) Try.own3 started (by kernel_rfl) Try.func3
    (ChangeSpec.witness6 (enc := enc) (C := Try.checked) false ⟨#[], #[.slice none 0 0, .slice none 0 0, .slice none 0 0], []⟩ 8 (by kernel_rfl) (by kernel_rfl) (by kernel_rfl) (by kernel_rfl)) ?_
  intro W base args ds gs before hval hW _ _
  exact Go.Sy.law_any (P := Try.prog) (cx := Go.Sy.cx0) rfl Go.Sy.ext0_ok (n := 1000) (by kernel_rfl) (by kernel_rfl) (by kernel_rfl) (by kernel_rfl) rfl
    (fun H ds hl => by
      match ds, hl with
      | [d0, d1, d2], _ => rfl) rfl Try.underlying4 diskFlushed_law hW hval

theorem diskFlushed_holds : Rows.DiskFlushedSaid :=
  OpenClaim.holds_of_wide 3 Try.f3 rfl rfl rfl rfl rfl rfl rfl ⟨rfl, rfl, rfl, rfl, rfl⟩ rfl rfl rfl rfl rfl (by kernel_rfl) Try.func3 (by kernel_rfl)
    (of_decide_eq_true (by kernel_rfl)) (by unfold Func.isWrapper; first | (rw [if_pos (by decide +kernel)]; kernel_rfl) | (rw [if_neg (by decide +kernel)]; exact ⟨rfl, rfl⟩))
    (fun os started H enc _ => diskFlushed_lifted os started H enc)

end Go.Proofs.Ytijmfjpcjceejaa
