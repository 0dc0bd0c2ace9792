/-
  For every input of bulk at most 1048576 the law RollRolls returns true, does not panic, and leaves its input as it was; no other conditions.
-/
import Derived.Test.YtmkdhgigghgieaaRows
import Derived.Test.YtmkdhgigghgieaaLwRollR
import Derived.JoinedCond
namespace Go.Proofs.Ytmkdhgigghgieaa
open Go.ChangeShapes Go.WideShapes Go.ChangeAt Go.RowKit

theorem Try.own5 : ownKnob Try.prog.godebug = none := by kernel_rfl

theorem bulk_pos {H : Type} (d : DataW H) : 1 ≤ Rows.uptoBulk d := by
  cases d with
  | lit l => cases l <;> simp [Rows.uptoBulk]
  | _ => simp [Rows.uptoBulk]
theorem bulk_len {H : Type} (es : List (DataW H)) : es.length ≤ Rows.uptoBulkAll es := by
  induction es with
  | nil => simp
  | cons d r ih =>
    have := bulk_pos d
    rw [List.length_cons, Rows.uptoBulkAll]
    omega
theorem bulk_mem {H : Type} {ds : List (DataW H)} {d : DataW H} (h : d ∈ ds) : Rows.uptoBulk d ≤ Rows.uptoBulkAll ds := by
  induction ds with
  | nil => cases h
  | cons x r ih =>
    rw [Rows.uptoBulkAll]
    rcases List.mem_cons.1 h with rfl | h
    · omega
    · have := ih h
      omega
theorem bulk_slice {H : Type} {ds gs : List (DataW H)} (hk : Rows.uptoSmall H (ds ++ gs) = true) : ∀ d ∈ ds, ∀ es sp, d = .slice es sp → es.length ≤ 1048576 := by
  rintro d hd es sp rfl
  have h1 : Rows.uptoBulkAll (ds ++ gs) ≤ 1048576 := of_decide_eq_true hk
  have h2 := bulk_mem (ds := ds ++ gs) (List.mem_append_left _ hd)
  have h3 := bulk_len es
  rw [Rows.uptoBulk] at h2
  omega

theorem rollRolls_law (l : List Go.Sy.AV) (hl : l.length = Try.f5.params.toList.length) (h : ∀ (j : Nat) (t : TypeId) (a : Go.Sy.AV), Try.f5.params.toList[j]? = some t → l[j]? = some a → Go.Sy.ArgFit Try.prog t a)
    (hlen : ∀ (m : Nat) (c : List Go.Sy.AV) (g : Bool), l[2]? = some (.sl m c g) → m ≤ 1048576) :
    Go.Sy.cf (Go.Sy.evFn Go.Sy.cx0 Go.Sy.ext0 1100000) 5 l = some (.v (.bool true)) := by
  match l, hl with
  | [a0, a1, a2], _ =>
    obtain ⟨y0, rfl, hz0⟩ := Go.Sy.argN (h 0 23 _ rfl rfl) (by kernel_rfl) (by kernel_rfl)
    obtain ⟨x0, hx0, rfl⟩ := Go.Sy.fits_bytes 64 hz0
    obtain ⟨x1, hx1, rfl⟩ := Go.Sy.fit_pats (Go.Sy.arg1 (h 1 24 _ rfl rfl) (by kernel_rfl) (by kernel_rfl))
    obtain ⟨x2, hx2, rfl⟩ := Go.Sy.fit_ints (Go.Sy.arg1 (h 2 32 _ rfl rfl) (by kernel_rfl) (by kernel_rfl))
    exact Go.Sy.rolls_ev x0 hx0 x1 x2 (hlen _ _ _ rfl)

set_option maxRecDepth 100000 in
theorem rollRolls_lifted (os : Os) (started : os.Started) (H : Type) (enc : TypeId × Value → H) (F0 : Stop.Interp) :
    ReturnsInHanded {} Try.checked os 5 .any ((Rows.OpenSpec.upto Rows.rollRollsSpec).pre6 enc Try.prog Try.f5 Rows.rollRollsUptoRow.domain false) (((Rows.OpenSpec.upto Rows.rollRollsSpec).at F0).post enc Try.prog Try.f5 false true false false) := by
  refine returnsInHanded_of_cond (C := Try.checked) (s := Rows.OpenSpec.upto Rows.rollRollsSpec) (k := Rows.uptoSmall) rfl Try.own5 started (by kernel_rfl) Try.func5
    (OpenSpec.witness (enc := enc) (C := Try.checked) (s := Rows.OpenSpec.upto Rows.rollRollsSpec) (k := Rows.uptoSmall) rfl false ⟨#[], #[.agg #[.int .u8 0, .int .u8 0, .int .u8 0, .int .u8 0, .int .u8 0, .int .u8 0, .int .u8 0, .int .u8 0, .int .u8 0, .int .u8 0, .int .u8 0, .int .u8 0, .int .u8 0, .int .u8 0, .int .u8 0, .int .u8 0, .int .u8 0, .int .u8 0, .int .u8 0, .int .u8 0, .int .u8 0, .int .u8 0, .int .u8 0, .int .u8 0, .int .u8 0, .int .u8 0, .int .u8 0, .int .u8 0, .int .u8 0, .int .u8 0, .int .u8 0, .int .u8 0, .int .u8 0, .int .u8 0, .int .u8 0, .int .u8 0, .int .u8 0, .int .u8 0, .int .u8 0, .int .u8 0, .int .u8 0, .int .u8 0, .int .u8 0, .int .u8 0, .int .u8 0, .int .u8 0, .int .u8 0, .int .u8 0, .int .u8 0, .int .u8 0, .int .u8 0, .int .u8 0, .int .u8 0, .int .u8 0, .int .u8 0, .int .u8 0, .int .u8 0, .int .u8 0, .int .u8 0, .int .u8 0, .int .u8 0, .int .u8 0, .int .u8 0, .int .u8 0], .slice none 0 0, .slice none 0 0], []⟩ 8 (by kernel_rfl) (by kernel_rfl) (by kernel_rfl)
      (x := ([.agg [.lit (.int .u8 0), .lit (.int .u8 0), .lit (.int .u8 0), .lit (.int .u8 0), .lit (.int .u8 0), .lit (.int .u8 0), .lit (.int .u8 0), .lit (.int .u8 0), .lit (.int .u8 0), .lit (.int .u8 0), .lit (.int .u8 0), .lit (.int .u8 0), .lit (.int .u8 0), .lit (.int .u8 0), .lit (.int .u8 0), .lit (.int .u8 0), .lit (.int .u8 0), .lit (.int .u8 0), .lit (.int .u8 0), .lit (.int .u8 0), .lit (.int .u8 0), .lit (.int .u8 0), .lit (.int .u8 0), .lit (.int .u8 0), .lit (.int .u8 0), .lit (.int .u8 0), .lit (.int .u8 0), .lit (.int .u8 0), .lit (.int .u8 0), .lit (.int .u8 0), .lit (.int .u8 0), .lit (.int .u8 0), .lit (.int .u8 0), .lit (.int .u8 0), .lit (.int .u8 0), .lit (.int .u8 0), .lit (.int .u8 0), .lit (.int .u8 0), .lit (.int .u8 0), .lit (.int .u8 0), .lit (.int .u8 0), .lit (.int .u8 0), .lit (.int .u8 0), .lit (.int .u8 0), .lit (.int .u8 0), .lit (.int .u8 0), .lit (.int .u8 0), .lit (.int .u8 0), .lit (.int .u8 0), .lit (.int .u8 0), .lit (.int .u8 0), .lit (.int .u8 0), .lit (.int .u8 0), .lit (.int .u8 0), .lit (.int .u8 0), .lit (.int .u8 0), .lit (.int .u8 0), .lit (.int .u8 0), .lit (.int .u8 0), .lit (.int .u8 0), .lit (.int .u8 0), .lit (.int .u8 0), .lit (.int .u8 0), .lit (.int .u8 0)], .nil, .nil], [], [])) (by kernel_rfl) (by kernel_rfl) (by kernel_rfl)) ?_
  intro W base args ds gs before hval hW _ hk _
  exact Go.Sy.law_upto (P := Try.prog) (cx := Go.Sy.cx0) (s := (Rows.OpenSpec.upto Rows.rollRollsSpec).at F0) rfl Go.Sy.ext0_ok (n := 1100000) (by kernel_rfl) (by kernel_rfl) (by kernel_rfl) (by kernel_rfl) rfl
    (fun H ds hl => by
      match ds, hl with
      | [d0, d1, d2], _ => rfl) rfl Try.underlying4 2 (tj := 32) rfl Try.underlying32 1048576 rollRolls_law hW hval (bulk_slice hk)

theorem rollRollsUpto_holds : Rows.RollRollsUptoSaid :=
  OpenClaim.holds_of_cond 5 Try.f5 rfl rfl rfl rfl rfl rfl rfl ⟨rfl, rfl, rfl, rfl, rfl⟩ rfl rfl rfl rfl rfl (by kernel_rfl) Try.func5 (by kernel_rfl)
    (of_decide_eq_true (by kernel_rfl)) (by unfold Func.isWrapper; first | (rw [if_pos (by decide +kernel)]; kernel_rfl) | (rw [if_neg (by decide +kernel)]; exact ⟨rfl, rfl⟩))
    (fun os started H enc _ F0 => rollRolls_lifted os started H enc F0)

end Go.Proofs.Ytmkdhgigghgieaa
