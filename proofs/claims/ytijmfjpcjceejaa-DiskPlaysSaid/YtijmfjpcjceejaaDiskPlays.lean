/-
  For every input the law DiskPlays returns true, does not panic, and leaves its input as it was; no conditions.
-/
import Derived.Test.YtijmfjpcjceejaaRows
import Derived.Test.YtijmfjpcjceejaaLwPly
import Derived.SizedLaws
namespace Go.Proofs.Ytijmfjpcjceejaa
open Go.ChangeShapes Go.WideShapes Go.ChangeAt Go.RowKit

theorem Try.own5 : ownKnob Try.prog.godebug = none := by kernel_rfl

theorem weights_all {H : Type} {P : Program} {e : TypeId} {d : DataW H} {n : Nat} : ∀ {l : List (DataW H)}, d ∈ l → n ∈ d.weights P e → n ∈ DataW.weightsAll P e l
  | x :: l, hd, hn => by
    simp only [DataW.weightsAll, List.mem_append]
    rcases List.mem_cons.1 hd with rfl | hd
    · exact .inl hn
    · exact .inr (weights_all hd hn)
  | [], hd, _ => by cases hd

theorem keeps_sized {H : Type} {enc : TypeId × Value → H} {W : World} {sp : Nat → Bool} {held : Bool} {args : Array Value} {ds gs : List (DataW H)} {vs : List TypeId} {p : List MemPlace} (hk : (DataW.weightsEach Try.prog (Try.f5.params.toList ++ vs) (ds ++ gs)).all (· ≤ reachBytes) = true)
    (hA : DataW.TrodAll enc Try.prog W 0 sp held Try.f5.params.toList args.toList ds p) (zs : List Go.Sy.AV) (hl : zs.length = Try.f5.params.toList.length)
    (hv : ∀ (i : Nat) (x : Go.Sy.AV) (v : Value), zs[i]? = some x → args.toList[i]? = some v → Go.Sy.VR W (Go.Sy.im (Go.Sy.G0 W) W []) [] x v) : Go.Sy.KeepsShort zs := by
  intro m c g hx hc q hq m2 l2 g2 hx2
  obtain ⟨v, d, pl, fuel, g1, g3, g4⟩ := Go.Sy.trodAll_at hA 1 22 rfl
  have hce : Try.prog.cellsOf 34 = 67 := by kernel_rfl
  have hr := hv 1 _ v hx g1
  obtain ⟨es, spare, parts, d2, e1, e2, e3, e4⟩ := Go.Sy.nest_len (j := 3) (q := q) (m := m2) (l2 := l2) (g := g2) Try.underlying22 Try.underlying34 rfl (by kernel_rfl) Try.underlying23 (by rw [hce]; show 66 < 67; omega) g4 hr (by rw [hce]; exact hc) hq (by rw [hce]; exact hx2)
  simp only at e1
  rcases e4 with rfl | ⟨es2, sp2, rfl, rfl⟩
  · omega
  · have h8 : Try.prog.bytesOf 3 = 8 := by kernel_rfl
    have h1 : (es2.length + sp2.length) * 8 ∈ (DataW.slice es2 sp2 : DataW H).weights Try.prog 23 := by
      simp only [DataW.weights, Try.underlying23, h8, List.mem_cons, true_or]
    have h2 : (es2.length + sp2.length) * 8 ∈ (DataW.agg parts : DataW H).weights Try.prog 34 := by
      simp only [DataW.weights, Try.underlying34]
      exact DataW.weights_mem_each (j := 3) rfl e3 _ h1
    have h3 : (es2.length + sp2.length) * 8 ∈ d.weights Try.prog 22 := by
      rw [e1]
      simp only [DataW.weights, Try.underlying22, List.mem_cons, List.mem_append]
      exact .inr (.inl (weights_all (List.mem_of_getElem? e2) h2))
    have h4 := List.all_eq_true.1 hk _ (DataW.weights_mem_each (j := 1) (t := 22) rfl (by rw [List.getElem?_append_left (List.getElem?_eq_some_iff.1 g3).1]; exact g3) _ h3)
    have h5 := of_decide_eq_true h4
    have h6 := reachBytes_lt
    omega

theorem diskPlays_law (l : List Go.Sy.AV) (hl : l.length = Try.f5.params.toList.length) (h : ∀ (j : Nat) (t : TypeId) (a : Go.Sy.AV), Try.f5.params.toList[j]? = some t → l[j]? = some a → Go.Sy.ArgFit Try.prog t a) (hlen : Go.Sy.KeepsShort l) :
    Go.Sy.cf (Go.Sy.evFn Go.Sy.cx0 Go.Sy.ext0 2061) 5 l = some (.v (.bool true)) := by
  match l, hl with
  | [a0, a1], _ =>
    obtain ⟨x0, rfl, hx0, hy0⟩ := Go.Sy.fit_i64 (Go.Sy.arg1 (h 0 3 _ rfl rfl) (by kernel_rfl) (by kernel_rfl))
    obtain ⟨x1, hx1, rfl⟩ := Go.Sy.fit_acts (Go.Sy.arg1 (h 1 22 _ rfl rfl) (by kernel_rfl) (by kernel_rfl))
    exact Go.Sy.plays_law hx1 x0 hlen

set_option maxRecDepth 100000 in
theorem diskPlays_lifted (os : Os) (started : os.Started) (H : Type) (enc : TypeId × Value → H) :
    ReturnsInHanded {} Try.checked os 5 .any (Rows.diskPlaysSpec.pre6 enc Try.prog Try.f5 Rows.diskPlaysRow.domain false) (Rows.diskPlaysSpec.post enc Try.prog Try.f5 false true false false) := by
  refine returnsInHanded_of_change_sized (C := Try.checked) Try.own5 started (by kernel_rfl) Try.func5
    (ChangeSpec.witness6 (enc := enc) (C := Try.checked) false ⟨#[], #[.int .i64 0, .slice none 0 0], []⟩ 8 (by kernel_rfl) (by kernel_rfl) (by kernel_rfl) (by kernel_rfl)) ?_
  intro W base args ds gs before hval hW _ hk _
  exact Go.Sy.law_uptoG (P := Try.prog) (cx := Go.Sy.cx0) rfl Go.Sy.ext0_ok (n := 2061) (by kernel_rfl) (by kernel_rfl) (by kernel_rfl) (by kernel_rfl) rfl
    (fun H ds hl => by
      match ds, hl with
      | [d0, d1], _ => rfl) rfl Try.underlying4 Go.Sy.KeepsShort diskPlays_law hW hval (fun p sp held hA zs hl hv => keeps_sized hk hA zs hl hv)

theorem diskPlays_holds : Rows.DiskPlaysSaid :=
  OpenClaim.holds_of_wide 5 Try.f5 rfl rfl rfl rfl rfl rfl rfl ⟨rfl, rfl, rfl, rfl, rfl⟩ rfl rfl rfl rfl rfl (by kernel_rfl) Try.func5 (by kernel_rfl)
    (of_decide_eq_true (by kernel_rfl)) (by unfold Func.isWrapper; first | (rw [if_pos (by decide +kernel)]; kernel_rfl) | (rw [if_neg (by decide +kernel)]; exact ⟨rfl, rfl⟩))
    (fun os started H enc _ => diskPlays_lifted os started H enc)

end Go.Proofs.Ytijmfjpcjceejaa
