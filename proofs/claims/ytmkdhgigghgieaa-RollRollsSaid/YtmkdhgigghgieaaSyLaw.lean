/-
  From the reader's answer to a law's row.
-/
import Derived.Test.YtmkdhgigghgieaaSyTool
import Derived.ProofKit
import Derived.Deep.Onto
namespace Go.Sy
open Go.ChangeShapes Go.WideShapes Go.RowKit

/-- What was there is as it was. -/
structure Old (w w' : World) : Prop where
  os : w'.os = w.os
  out : w'.output = w.output
  heap : ∀ i, i < w.heap.size → w'.heap[i]? = w.heap[i]?
  size : w.heap.size ≤ w'.heap.size

theorem Old.kept {w w' : World} (h : Old w w') (may : MemPlace → Prop) : w.keptBut w' may := (World.keptBut_refl w may).congr h.os h.out h.heap

theorem Old.frozen {w w' : World} (h : Old w w') (a : Addr) (ha : a.block < w.heap.size) : w'.frozen? a = w.frozen? a := by
  unfold World.frozen?
  rw [h.heap _ ha]

theorem Old.cell {w w' : World} (h : Old w w') (a : Addr) (ha : a.block < w.heap.size) : w'.cell? a = w.cell? a := by
  unfold World.cell?
  rw [h.heap _ ha]

/-- the view of a law's call: all that is there stays while it runs -/
def G0 (w : World) : Gh := ⟨w.heap.size, fun _ => False, fun blk => blk < w.heap.size⟩

theorem MR.none (w : World) : MR (G0 w) w [] [] :=
  ⟨rfl, fun b b' blk o o' h => by simp at h, fun b blk o l h => by simp at h, fun b blk l h => by simp at h, fun b e g l h => by simp at h, fun _ h => h.elim, fun blk h => ⟨h, fun ⟨b, o, hb⟩ => by simp at hb⟩, Nat.le_refl _⟩

/-- A law that the reader answers for. -/
theorem law_calls {cx : Cx} {ext : FnA} (hext : ∀ f args bx r bx', ext f args bx = some (r, bx') → Sound cx.P f args bx r bx') {n : Nat} {f : FuncId} {args : List AV} {y : Value} {vs : Array Value} {w : World}
    (h : cf (evFn cx ext n) f args = some (.v y)) (hs : vs.size = args.length)
    (hv : ∀ (i : Nat) (x : AV) (v : Value), args[i]? = some x → vs[i]? = some v → VR w (im (G0 w) w []) [] x v) :
    Calls cx.P f vs w fun e w' => e = .returned y ∧ Old w w' := by
  unfold cf at h
  rw [Option.map_eq_some_iff] at h
  obtain ⟨⟨r, bx'⟩, h1, h2⟩ := h
  refine ((evFn_sound hext n f args [] r bx' h1).2 (G0 w) w [] vs rfl (MR.none w) hs hv).mono ?_
  rintro e w' ⟨v, β', rfl, e1, m1, v1⟩
  have hr : r = .v y := by
    cases r with
    | bsl b off m e => simp only [frz] at h2; split at h2 <;> simp at h2
    | bp b off => simp only [frz] at h2; split at h2 <;> simp at h2
    | sl m l f => simp only [frz] at h2; split at h2 <;> simp at h2
    | ip l f => simp only [frz] at h2; split at h2 <;> simp at h2
    | _ => simp [frz] at h2 <;> simp [h2]
  subst hr
  have hv : v = y := by cases v1; rfl
  subst hv
  exact ⟨rfl, e1.out.1, e1.out.2.1, fun i hi => e1.old i hi (fun ⟨b, o, hb⟩ => by simp at hb), e1.sz⟩

theorem post_old {H : Type} {enc : TypeId × Value → H} {P : Program} {f : Func} {s : ChangeSpec} {apart fresh handsOn again : Bool} {W W' : World} {args : Array Value} {v : Value} {ds gs : List (DataW H)} {before pa pv : List MemPlace}
    (hW : DataW.Whole enc P f.params.toList s.vars apart W args.toList ds gs before)
    (hres : ∀ (b : Nat) (sp : Nat → Bool) (hd : Bool), DataW.TrodAll enc P W' b sp hd f.resultTypes.toList (v.resultList f.resultTypes.size) (s.fn H (ds ++ gs)).results [])
    (hargs : ∀ sp : Nat → Bool, (∀ p ∈ before, sp p.block = true) → DataW.TrodAll enc P W' 0 sp true f.params.toList args.toList (s.fn H (ds ++ gs)).args pa)
    (hvars : ∀ sp : Nat → Bool, (∀ p ∈ before, sp p.block = true) → DataW.TrodVars enc P W' sp s.vars (s.fn H (ds ++ gs)).vars pv)
    (hps : before = pa ++ pv) (ho : Old W W')
    (hok : ∀ (j : Nat) (t : TypeId) (r : Value), f.resultTypes[j]? = some t → (v.resultList f.resultTypes.size)[j]? = some r → Value.okWide P W' .any 0 t r) :
    s.post enc P f apart fresh handsOn again W args v W' := by
  have hin : ∀ p, p ∈ before → p ∈ pa ++ pv := fun p hp => hps ▸ hp
  refine ⟨ds, gs, before, [], pa, pv, hW, hres _ _ _, hargs _ (fun p hp => by simpa using hW.lt p hp), hvars _ (fun p hp => by simpa using hW.lt p hp), ho.kept _ |> World.keptBut_mono (fun p hp => hp), fun _ => ?_⟩
  have hlt := hW.lt
  obtain ⟨_, _, _, _, _, hz, hn⟩ := hW
  refine ⟨hok, _, _, ([] ++ pa) ++ pv, ⟨[] ++ pa, pv, trodAll_append (hargs _ (fun _ _ => rfl)) (hres _ _ _), hvars _ (fun _ _ => rfl), rfl, ?_, ?_⟩, ?_⟩
  · intro b off hp
    have hp' : MemPlace.cell b off ∈ before := by rw [hps]; simpa using hp
    rw [ho.frozen _ (hlt _ hp')]
    exact hz b off hp'
  · intro ha
    have := hn ha
    rw [hps] at this
    simpa using this
  · intro p hp _
    rw [hps]
    simpa using hp
end Go.Sy
