/-
  A law whose arguments are of bounded bulk: what the reader's answer says of its row.
-/
import Derived.Test.YtmkdhgigghgieaaSyArgs
namespace Go.Sy
open Go.ChangeShapes Go.WideShapes Go.ChangeAt Go.RowKit Go.Deep

section
variable {H : Type} {enc : TypeId × Value → H} {P : Program} {W : World} {sp : Nat → Bool} {held : Bool}

theorem trodAll_at : ∀ {ts : List TypeId} {vs : List Value} {ds : List (DataW H)} {ps : List MemPlace}, DataW.TrodAll enc P W 0 sp held ts vs ds ps →
    ∀ (j : Nat) (t : TypeId), ts[j]? = some t → ∃ (v : Value) (d : DataW H) (pl : List MemPlace) (fuel : Nat), vs[j]? = some v ∧ ds[j]? = some d ∧ DataW.trod enc P W 0 sp held fuel t v.cells.toList = some (d, pl)
  | [], vs, ds, ps, h, j, t, ht => by simp at ht
  | t :: ts, vs, ds, ps, h, j, t', ht => by
    obtain ⟨v, vs1, d, ds1, a, b, rfl, rfl, rfl, ⟨fuel, h1⟩, h2⟩ := trodAll_cons h
    rcases j with _ | j
    · simp only [List.getElem?_cons_zero, Option.some.injEq] at ht
      subst ht
      exact ⟨v, d, a, fuel, rfl, rfl, h1⟩
    · obtain ⟨v', d', pl, fuel', g1, g2, g3⟩ := trodAll_at h2 j t' (by simpa using ht)
      exact ⟨v', d', pl, fuel', by simpa using g1, by simpa using g2, g3⟩

/-- A law that the reader answers for, where the slice at place J is no longer than B. -/
theorem law_upto {cx : Cx} {ext : FnA} (hP : cx.P = P) (hext : ∀ f args bx r bx', ext f args bx = some (r, bx') → Sound cx.P f args bx r bx') {n : Nat} {f : FuncId} {fn : Func} {s : ChangeSpec} {tb : TypeId}
    (hl : laidOutB P = true) (hm : mapsRowed P = true) (hz : slicesPos P = true) (hts : fn.params.toList.all (fun t => decide (t < P.types.size) && (shp P 8 t).isSome) = true)
    (hv : s.vars = []) (hspec : ∀ (H : Type) (ds : List (DataW H)), ds.length = fn.params.toList.length → s.fn H ds = { results := [.lit (.bool true)], args := ds })
    (hres : fn.resultTypes = #[tb]) (hb : P.underlying tb = some .bool) (J : Nat) {tj ej : TypeId} (hJ : fn.params.toList[J]? = some tj) (huj : P.underlying tj = some (.slice ej)) (B : Nat)
    (hlaw : ∀ as : List AV, as.length = fn.params.toList.length → (∀ (j : Nat) (t : TypeId) (a : AV), fn.params.toList[j]? = some t → as[j]? = some a → ArgFit P t a) → (∀ (m : Nat) (l : List AV) (g : Bool), as[J]? = some (.sl m l g) → m ≤ B) → cf (evFn cx ext n) f as = some (.v (.bool true)))
    {apart : Bool} {base : Nat} {args : Array Value} {ds gs : List (DataW H)} {before : List MemPlace} (hW : DataW.Whole enc P fn.params.toList s.vars apart W args.toList ds gs before)
    (hval : ∀ (j : Nat) t v, fn.params[j]? = some t → args[j]? = some v → Value.okWide P W .any base t v)
    (hsmall : ∀ d ∈ ds, ∀ es sp, d = .slice es sp → es.length ≤ B) :
    Calls P f args W fun e W' => ∃ v, e = .returned v ∧ s.post enc P fn apart true false false W args v W' := by
  have hW' := hW
  obtain ⟨p, q, hA, hV, rfl, hfz, hnd⟩ := hW
  rw [hv] at hV
  obtain ⟨rfl, rfl⟩ := trodVars_none hV
  rw [List.all_eq_true] at hts
  have hts1 : ∀ t ∈ fn.params.toList, t < P.types.size := fun t ht => by
    have := hts t ht
    rw [Bool.and_eq_true] at this
    exact of_decide_eq_true this.1
  have hts2 : ∀ t ∈ fn.params.toList, (shp P 8 t).isSome = true := fun t ht => by
    have := hts t ht
    rw [Bool.and_eq_true] at this
    exact this.2
  obtain ⟨l1, l2, as, l3, h3, h4⟩ := args_fit hA (fun j t v ht hv => hval j t v (by simpa using ht) (by simpa using hv)) hts2
  have h5 : ∀ (m : Nat) (l : List AV) (g : Bool), as[J]? = some (.sl m l g) → m ≤ B := by
    intro m l g hx
    obtain ⟨v, d, pl, fuel, g1, g2, g3⟩ := trodAll_at hA J tj hJ
    have hr := h4 J _ v hx g1
    have hd : d ∈ ds := List.mem_of_getElem? g2
    cases hr with
    | sl _ _ _ a cap blk off cv hn ha hc hi =>
      have hcs : (Value.slice a m cap).cells.toList = [Value.slice a m cap] := rfl
      rw [hcs] at g3
      rcases open_slice huj g3 with ⟨e1, _⟩ | ⟨a', len, cap', m', n', D, Pl, e1, _, _, _, _, e2, _⟩
      · simp only [List.cons.injEq, Value.slice.injEq, and_true] at e1
        omega
      · simp only [List.cons.injEq, Value.slice.injEq, and_true] at e1
        simp only [Prod.mk.injEq] at e2
        have := hsmall d hd _ _ e2.1
        rw [List.length_map, List.length_range] at this
        omega
  subst hP
  refine (law_calls (w := W) hext (hlaw as l3 h3 h5) (by simpa using l1.trans l3.symm) ?_).mono fun e W' ⟨he, ho⟩ => ?_
  · intro i x v hx hv
    exact h4 i x v hx (by simpa using hv)
  · subst he
    refine ⟨_, rfl, post_old (pa := p) (pv := []) hW' ?_ ?_ ?_ (by simp) ho ?_⟩
    · intro b sp hd
      rw [hres, List.append_nil, hspec _ _ l2]
      exact trodAll_mk1 (shut_bool hb true)
    · intro sp' hs
      rw [List.append_nil, hspec _ _ l2]
      exact trodAll_back hl hm hz ho hA hts1 (fun p hp => hs p (by simpa using hp))
    · intro sp' hs
      rw [hv, List.append_nil, hspec _ _ l2]
      exact rfl
    · exact ok_one hres rfl (okWide_bool_mk hb true)
end
end Go.Sy
