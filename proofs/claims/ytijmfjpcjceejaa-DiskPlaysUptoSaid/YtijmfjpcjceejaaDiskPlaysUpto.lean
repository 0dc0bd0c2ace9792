/-
  For every input of bulk at most 1048576 the law DiskPlays returns true, does not panic, and leaves its input as it was; no other conditions.
-/
import Derived.Test.YtijmfjpcjceejaaRows
import Derived.Test.YtijmfjpcjceejaaLwPly
import Derived.JoinedCond
namespace Go.Proofs.Ytijmfjpcjceejaa
open Go.ChangeShapes Go.WideShapes Go.ChangeAt Go.RowKit

theorem Try.own5 : ownKnob Try.prog.godebug = none := by kernel_rfl

theorem bulk_pos {H : Type} (d : DataW H) : 1 ≤ Rows.uptoBulk d := by
  cases d with
  | lit l => cases l <;> simp [Rows.uptoBulk]
  | _ => simp [Rows.uptoBulk]
theorem bulk_len {H : Type} (es : List (DataW H)) : es.length ≤ Rows.uptoBulkAll es := by
  induction es with
  | nil => simp
  | cons d r ih =>
    have := bulk_pos d
    rw [List.length_cons, Rows.uptoBulkAll]
    omega
theorem bulk_mem {H : Type} {ds : List (DataW H)} {d : DataW H} (h : d ∈ ds) : Rows.uptoBulk d ≤ Rows.uptoBulkAll ds := by
  induction ds with
  | nil => cases h
  | cons x r ih =>
    rw [Rows.uptoBulkAll]
    rcases List.mem_cons.1 h with rfl | h
    · omega
    · have := ih h
      omega
theorem keeps_short {H : Type} {enc : TypeId × Value → H} {W : World} {sp : Nat → Bool} {held : Bool} {args : Array Value} {ds gs : List (DataW H)} {p : List MemPlace} (hk : Rows.uptoSmall H (ds ++ gs) = true)
    (hA : DataW.TrodAll enc Try.prog W 0 sp held Try.f5.params.toList args.toList ds p) (zs : List Go.Sy.AV) (hl : zs.length = Try.f5.params.toList.length)
    (hv : ∀ (i : Nat) (x : Go.Sy.AV) (v : Value), zs[i]? = some x → args.toList[i]? = some v → Go.Sy.VR W (Go.Sy.im (Go.Sy.G0 W) W []) [] x v) : Go.Sy.KeepsShort zs := by
  intro m c g hx hc q hq m2 l2 g2 hx2
  obtain ⟨v, d, pl, fuel, g1, g3, g4⟩ := Go.Sy.trodAll_at hA 1 22 rfl
  have hce : Try.prog.cellsOf 34 = 67 := by kernel_rfl
  have hr := hv 1 _ v hx g1
  obtain ⟨es, spare, parts, d2, e1, e2, e3, e4⟩ := Go.Sy.nest_len (j := 3) (q := q) (m := m2) (l2 := l2) (g := g2) Try.underlying22 Try.underlying34 rfl (by kernel_rfl) Try.underlying23 (by rw [hce]; show 66 < 67; omega) g4 hr (by rw [hce]; exact hc) hq (by rw [hce]; exact hx2)
  have h1 : Rows.uptoBulkAll (ds ++ gs) ≤ 1048576 := of_decide_eq_true hk
  have h2 := bulk_mem (ds := ds ++ gs) (List.mem_append_left _ (List.mem_of_getElem? g3))
  have h3 := bulk_mem (List.mem_of_getElem? e2)
  have h4 := bulk_mem (List.mem_of_getElem? e3)
  simp only at e1
  rw [e1, Rows.uptoBulk] at h2
  rw [Rows.uptoBulk] at h3
  rcases e4 with rfl | ⟨es2, sp2, rfl, rfl⟩
  · omega
  · have h5 := bulk_len es2
    rw [Rows.uptoBulk] at h4
    omega

theorem diskPlays_law (l : List Go.Sy.AV) (hl : l.length = Try.f5.params.toList.length) (h : ∀ (j : Nat) (t : TypeId) (a : Go.Sy.AV), Try.f5.params.toList[j]? = some t → l[j]? = some a → Go.Sy.ArgFit Try.prog t a)
    (hlen : Go.Sy.KeepsShort l) :
    Go.Sy.cf (Go.Sy.evFn Go.Sy.cx0 Go.Sy.ext0 2061) 5 l = some (.v (.bool true)) := by
  match l, hl with
  | [a0, a1], _ =>
    obtain ⟨x0, rfl, hx0, hy0⟩ := Go.Sy.fit_i64 (Go.Sy.arg1 (h 0 3 _ rfl rfl) (by kernel_rfl) (by kernel_rfl))
    obtain ⟨x1, hx1, rfl⟩ := Go.Sy.fit_acts (Go.Sy.arg1 (h 1 22 _ rfl rfl) (by kernel_rfl) (by kernel_rfl))
    exact Go.Sy.plays_law hx1 x0 hlen

set_option maxRecDepth 100000 in
theorem diskPlays_lifted (os : Os) (started : os.Started) (H : Type) (enc : TypeId × Value → H) (F0 : Stop.Interp) :
    ReturnsInHanded {} Try.checked os 5 .any ((Rows.OpenSpec.upto Rows.diskPlaysSpec).pre6 enc Try.prog Try.f5 Rows.diskPlaysUptoRow.domain false) (((Rows.OpenSpec.upto Rows.diskPlaysSpec).at F0).post enc Try.prog Try.f5 false true false false) := by
  refine returnsInHanded_of_cond (C := Try.checked) (s := Rows.OpenSpec.upto Rows.diskPlaysSpec) (k := Rows.uptoSmall) rfl Try.own5 started (by kernel_rfl) Try.func5
    (OpenSpec.witness (enc := enc) (C := Try.checked) (s := Rows.OpenSpec.upto Rows.diskPlaysSpec) (k := Rows.uptoSmall) rfl false ⟨#[], #[.int .i64 0, .slice none 0 0], []⟩ 8 (by kernel_rfl) (by kernel_rfl) (by kernel_rfl)
      (x := ([.lit (.int .i64 0), .nil], [], [])) (by kernel_rfl) (by kernel_rfl) (by kernel_rfl)) ?_
  intro W base args ds gs before hval hW _ hk _
  exact Go.Sy.law_uptoG (P := Try.prog) (cx := Go.Sy.cx0) (s := (Rows.OpenSpec.upto Rows.diskPlaysSpec).at F0) rfl Go.Sy.ext0_ok (n := 2061) (by kernel_rfl) (by kernel_rfl) (by kernel_rfl) (by kernel_rfl) rfl
    (fun H ds hl => by
      match ds, hl with
      | [d0, d1], _ => rfl) rfl Try.underlying4 Go.Sy.KeepsShort diskPlays_law hW hval (fun p sp held hA zs hl hv => keeps_short hk hA zs hl hv)

theorem diskPlaysUpto_holds : Rows.DiskPlaysUptoSaid :=
  OpenClaim.holds_of_cond 5 Try.f5 rfl rfl rfl rfl rfl rfl rfl ⟨rfl, rfl, rfl, rfl, rfl⟩ rfl rfl rfl rfl rfl (by kernel_rfl) Try.func5 (by kernel_rfl)
    (of_decide_eq_true (by kernel_rfl)) (by unfold Func.isWrapper; first | (rw [if_pos (by decide +kernel)]; kernel_rfl) | (rw [if_neg (by decide +kernel)]; exact ⟨rfl, rfl⟩))
    (fun os started H enc _ F0 => diskPlays_lifted os started H enc F0)

end Go.Proofs.Ytijmfjpcjceejaa
