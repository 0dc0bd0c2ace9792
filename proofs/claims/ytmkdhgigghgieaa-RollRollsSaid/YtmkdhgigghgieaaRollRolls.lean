/-
  For every input the law RollRolls returns true, does not panic, and leaves its input as it was; no conditions.
-/
import Derived.Test.YtmkdhgigghgieaaRows
import Derived.Test.YtmkdhgigghgieaaLwRollR
import Derived.SizedLaws
namespace Go.Proofs.Ytmkdhgigghgieaa
open Go.ChangeShapes Go.WideShapes Go.ChangeAt Go.RowKit

theorem Try.own5 : ownKnob Try.prog.godebug = none := by kernel_rfl

def Short (zs : List Go.Sy.AV) : Prop := ∀ (m : Nat) (c : List Go.Sy.AV) (g : Bool), zs[2]? = some (.sl m c g) → m * 8 ≤ 2 ^ 47
theorem short_sized {H : Type} {enc : TypeId × Value → H} {W : World} {sp : Nat → Bool} {held : Bool} {args : Array Value} {ds gs : List (DataW H)} {vs : List TypeId} {p : List MemPlace} (hk : (DataW.weightsEach Try.prog (Try.f5.params.toList ++ vs) (ds ++ gs)).all (· ≤ reachBytes) = true)
    (hA : DataW.TrodAll enc Try.prog W 0 sp held Try.f5.params.toList args.toList ds p) (zs : List Go.Sy.AV) (hl : zs.length = Try.f5.params.toList.length)
    (hv : ∀ (i : Nat) (x : Go.Sy.AV) (v : Value), zs[i]? = some x → args.toList[i]? = some v → Go.Sy.VR W (Go.Sy.im (Go.Sy.G0 W) W []) [] x v) : Short zs := by
  intro m c g hx
  obtain ⟨v, d, pl, fuel, g1, g3, g4⟩ := Go.Sy.trodAll_at hA 2 32 rfl
  have h8 : Try.prog.bytesOf 3 = 8 := by kernel_rfl
  rcases Go.Sy.top_len Try.underlying32 g4 (hv 2 _ v hx g1) with rfl | ⟨es, spare, e1, rfl⟩
  · omega
  · simp only at e1
    subst e1
    have h1 := sized_slice (j := 2) (t := 32) hk rfl (by rw [List.getElem?_append_left (List.getElem?_eq_some_iff.1 g3).1]; exact g3) Try.underlying32
    rw [h8] at h1
    have h2 := reachBytes_lt
    omega

theorem rollRolls_law (l : List Go.Sy.AV) (hl : l.length = Try.f5.params.toList.length) (h : ∀ (j : Nat) (t : TypeId) (a : Go.Sy.AV), Try.f5.params.toList[j]? = some t → l[j]? = some a → Go.Sy.ArgFit Try.prog t a) (hlen : Short l) :
    ∃ n, Go.Sy.cf (Go.Sy.evFn Go.Sy.cx0 Go.Sy.ext0 n) 5 l = some (.v (.bool true)) := by
  match l, hl with
  | [a0, a1, a2], _ =>
    obtain ⟨y0, rfl, hz0⟩ := Go.Sy.argN (h 0 23 _ rfl rfl) (by kernel_rfl) (by kernel_rfl)
    obtain ⟨x0, hx0, rfl⟩ := Go.Sy.fits_bytes 64 hz0
    obtain ⟨x1, hx1, rfl⟩ := Go.Sy.fit_pats (Go.Sy.arg1 (h 1 24 _ rfl rfl) (by kernel_rfl) (by kernel_rfl))
    obtain ⟨x2, hx2, rfl⟩ := Go.Sy.fit_ints (Go.Sy.arg1 (h 2 32 _ rfl rfl) (by kernel_rfl) (by kernel_rfl))
    exact ⟨_, Go.Sy.rolls_ev x0 hx0 x1 x2 (n := x2.length + 2000) (by omega) (by omega) (hlen _ _ _ rfl)⟩

set_option maxRecDepth 100000 in
theorem rollRolls_lifted (os : Os) (started : os.Started) (H : Type) (enc : TypeId × Value → H) :
    ReturnsInHanded {} Try.checked os 5 .any (Rows.rollRollsSpec.pre6 enc Try.prog Try.f5 Rows.rollRollsRow.domain false) (Rows.rollRollsSpec.post enc Try.prog Try.f5 false true false false) := by
  refine returnsInHanded_of_change_sized (C := Try.checked) Try.own5 started (by kernel_rfl) Try.func5
    (ChangeSpec.witness6 (enc := enc) (C := Try.checked) false ⟨#[], #[.agg #[.int .u8 0, .int .u8 0, .int .u8 0, .int .u8 0, .int .u8 0, .int .u8 0, .int .u8 0, .int .u8 0, .int .u8 0, .int .u8 0, .int .u8 0, .int .u8 0, .int .u8 0, .int .u8 0, .int .u8 0, .int .u8 0, .int .u8 0, .int .u8 0, .int .u8 0, .int .u8 0, .int .u8 0, .int .u8 0, .int .u8 0, .int .u8 0, .int .u8 0, .int .u8 0, .int .u8 0, .int .u8 0, .int .u8 0, .int .u8 0, .int .u8 0, .int .u8 0, .int .u8 0, .int .u8 0, .int .u8 0, .int .u8 0, .int .u8 0, .int .u8 0, .int .u8 0, .int .u8 0, .int .u8 0, .int .u8 0, .int .u8 0, .int .u8 0, .int .u8 0, .int .u8 0, .int .u8 0, .int .u8 0, .int .u8 0, .int .u8 0, .int .u8 0, .int .u8 0, .int .u8 0, .int .u8 0, .int .u8 0, .int .u8 0, .int .u8 0, .int .u8 0, .int .u8 0, .int .u8 0, .int .u8 0, .int .u8 0, .int .u8 0, .int .u8 0], .slice none 0 0, .slice none 0 0], []⟩ 8 (by kernel_rfl) (by kernel_rfl) (by kernel_rfl) (by kernel_rfl)) ?_
  intro W base args ds gs before hval hW _ hk _
  exact Go.Sy.law_uptoE (P := Try.prog) (cx := Go.Sy.cx0) rfl Go.Sy.ext0_ok (by kernel_rfl) (by kernel_rfl) (by kernel_rfl) (by kernel_rfl) rfl
    (fun H ds hl => by
      match ds, hl with
      | [d0, d1, d2], _ => rfl) rfl Try.underlying4 Short rollRolls_law hW hval (fun p sp held hA zs hl hv => short_sized hk hA zs hl hv)

theorem rollRolls_holds : Rows.RollRollsSaid :=
  OpenClaim.holds_of_wide 5 Try.f5 rfl rfl rfl rfl rfl rfl rfl ⟨rfl, rfl, rfl, rfl, rfl⟩ rfl rfl rfl rfl rfl (by kernel_rfl) Try.func5 (by kernel_rfl)
    (of_decide_eq_true (by kernel_rfl)) (by unfold Func.isWrapper; first | (rw [if_pos (by decide +kernel)]; kernel_rfl) | (rw [if_neg (by decide +kernel)]; exact ⟨rfl, rfl⟩))
    (fun os started H enc _ => rollRolls_lifted os started H enc)

end Go.Proofs.Ytmkdhgigghgieaa
