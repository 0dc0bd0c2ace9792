/-
  A law whose arguments are of bounded bulk: lists that lie within lists are short, too.
-/
import Derived.Test.YtmkdhgigghgieaaSyUpto
namespace Go.Sy
open Go.ChangeShapes Go.WideShapes Go.ChangeAt Go.RowKit Go.Deep

section
variable {H : Type} {enc : TypeId × Value → H} {P : Program} {W : World} {sp : Nat → Bool} {held : Bool}

/-- how long a list is -/
theorem top_len {t e : TypeId} {fuel n : Nat} {v : Value} {x : DataW H × List MemPlace} {im0 : Bool → Nat → Prop} {l : List AV} {g0 : Bool}
    (hu : P.underlying t = some (.slice e)) (h : DataW.trod enc P W 0 sp held fuel t v.cells.toList = some x) (hv : VR W im0 [] (.sl n l g0) v) : n = 0 ∨ ∃ es spare, x.1 = .slice es spare ∧ es.length = n := by
  cases hv with
  | sl _ _ _ a cap blk off cv hn ha hc hi =>
  have hcs : (Value.slice a n cap).cells.toList = [Value.slice a n cap] := rfl
  rw [hcs] at h
  rcases open_slice hu h with ⟨e1, _⟩ | ⟨a', len, cap', m', k, D, Pl, e1, _, hlc, _, hmm, e2, hxx⟩
  · simp only [List.cons.injEq, Value.slice.injEq, and_true] at e1
    exact .inl (by omega)
  · simp only [List.cons.injEq, Value.slice.injEq, and_true] at e1
    obtain ⟨rfl, rfl, rfl⟩ := e1
    subst e2
    exact .inr ⟨_, _, rfl, by simp⟩
/-- a list of structs: how long a list in a field is -/
theorem nest_len {t e e2 : TypeId} {fs : Array Field} {fuel j n q m : Nat} {f : Field} {v : Value} {x : DataW H × List MemPlace} {im0 : Bool → Nat → Prop} {l l2 : List AV} {g g0 : Bool}
    (hu : P.underlying t = some (.slice e)) (hus : P.underlying e = some (.struct fs)) (hf : fs[j]? = some f) (hf1 : P.cellsOf f.type = 1) (huf : P.underlying f.type = some (.slice e2)) (hfo : f.offset < P.cellsOf e)
    (h : DataW.trod enc P W 0 sp held fuel t v.cells.toList = some x) (hv : VR W im0 [] (.sl n l g0) v) (hl : l.length = n * P.cellsOf e) (hq : q < n) (hx : l[q * P.cellsOf e + f.offset]? = some (.sl m l2 g)) :
    ∃ es spare parts d, x.1 = .slice es spare ∧ es[q]? = some (.agg parts) ∧ parts[j]? = some d ∧ (m = 0 ∨ ∃ es2 sp2, d = .slice es2 sp2 ∧ es2.length = m) := by
  cases hv with
  | sl _ _ _ a cap blk off cv hn ha hc hi =>
  have hcs : (Value.slice a n cap).cells.toList = [Value.slice a n cap] := rfl
  rw [hcs] at h
  rcases open_slice hu h with ⟨e1, _⟩ | ⟨a', len, cap', m', k, D, Pl, e1, _, hlc, _, hmm, e2, hxx⟩
  · simp only [List.cons.injEq, Value.slice.injEq, and_true] at e1
    omega
  simp only [List.cons.injEq, Value.slice.injEq, and_true] at e1
  obtain ⟨rfl, rfl, rfl⟩ := e1
  subst e2
  rcases ha with ⟨h0, _⟩ | ⟨ha, _⟩
  · omega
  simp only [Option.some.injEq] at ha
  subst ha
  obtain ⟨cs', hc', hd⟩ := hxx q (by rw [hmm]; split <;> omega)
  obtain ⟨_, hcl, hcc⟩ := World.cells?_some hc'
  obtain ⟨xs, k2, _, hxe, _, hxl, hxf⟩ := DataW.trod_struct hus hd
  simp only [Prod.mk.injEq] at hxe
  have hj : j < xs.length := by
    rw [hxl]
    have := (Array.getElem?_eq_some_iff.1 hf).1
    simpa using this
  refine ⟨_, _, xs.map (·.1), xs[j].1, rfl, ?_, by rw [List.getElem?_map, List.getElem?_eq_getElem hj]; rfl, ?_⟩
  · rw [List.getElem?_map, List.getElem?_range hq, Option.map_some, hxe.1]
  have h3 := hxf j f hf
  rw [List.getElem?_eq_getElem hj, hf1] at h3
  have hi1 : q * P.cellsOf e + f.offset < l.length := (List.getElem?_eq_some_iff.1 hx).1
  have hcell := hcc f.offset hfo
  rw [Go.Deep.add_add] at hcell
  have hadd : ∀ i, Addr.add ⟨blk, off, none⟩ i = ⟨blk, off + i, none⟩ := by
    intro i
    unfold Addr.add
    split
    · subst i; rfl
    · rfl
  rw [hadd, (hc _ hi1).1] at hcell
  have hone : (cs'.drop f.offset).take 1 = [cv (q * P.cellsOf e + f.offset)] := by
    have h5 : f.offset < cs'.length := by rw [hcl]; exact hfo
    rw [List.drop_eq_getElem_cons h5]
    rw [List.getElem?_eq_getElem h5, Option.some.injEq] at hcell
    rw [← hcell]
    rfl
  rw [hone] at h3
  have hvr := hi _ _ hx
  generalize cv (q * P.cellsOf e + f.offset) = y at *
  cases hvr with
  | sl _ _ _ a2 cap2 blk2 off2 cv2 hn2 ha2 hc2 hi2 =>
  rcases open_slice huf h3 with ⟨e1, _⟩ | ⟨a', len, cap', m', k, D2, Pl2, e1, _, _, _, _, e2, _⟩
  · simp only [List.cons.injEq, Value.slice.injEq, and_true] at e1
    exact .inl (by omega)
  · simp only [List.cons.injEq, Value.slice.injEq, and_true] at e1
    obtain ⟨rfl, rfl, rfl⟩ := e1
    rw [e2]
    exact .inr ⟨_, _, rfl, by simp⟩
/-- A law that the reader answers for, where its arguments are as 'Ex' says. -/
theorem law_uptoG {cx : Cx} {ext : FnA} (hP : cx.P = P) (hext : ∀ f args bx r bx', ext f args bx = some (r, bx') → Sound cx.P f args bx r bx') {n : Nat} {f : FuncId} {fn : Func} {s : ChangeSpec} {tb : TypeId}
    (hl : laidOutB P = true) (hm : mapsRowed P = true) (hz : slicesPos P = true) (hts : fn.params.toList.all (fun t => decide (t < P.types.size) && (shp P 8 t).isSome) = true)
    (hv : s.vars = []) (hspec : ∀ (H : Type) (ds : List (DataW H)), ds.length = fn.params.toList.length → s.fn H ds = { results := [.lit (.bool true)], args := ds })
    (hres : fn.resultTypes = #[tb]) (hb : P.underlying tb = some .bool) (Ex : List AV → Prop)
    (hlaw : ∀ as : List AV, as.length = fn.params.toList.length → (∀ (j : Nat) (t : TypeId) (a : AV), fn.params.toList[j]? = some t → as[j]? = some a → ArgFit P t a) → Ex as → cf (evFn cx ext n) f as = some (.v (.bool true)))
    {apart : Bool} {base : Nat} {args : Array Value} {ds gs : List (DataW H)} {before : List MemPlace} (hW : DataW.Whole enc P fn.params.toList s.vars apart W args.toList ds gs before)
    (hval : ∀ (j : Nat) t v, fn.params[j]? = some t → args[j]? = some v → Value.okWide P W .any base t v)
    (hEx : ∀ p sp held, DataW.TrodAll enc P W 0 sp held fn.params.toList args.toList ds p → ∀ as : List AV, as.length = fn.params.toList.length → (∀ (i : Nat) (x : AV) (v : Value), as[i]? = some x → args.toList[i]? = some v → VR W (im (G0 W) W []) [] x v) → Ex as) :
    Calls P f args W fun e W' => ∃ v, e = .returned v ∧ s.post enc P fn apart true false false W args v W' := by
  have hW' := hW
  obtain ⟨p, q, hA, hV, rfl, hfz, hnd⟩ := hW
  rw [hv] at hV
  obtain ⟨rfl, rfl⟩ := trodVars_none hV
  rw [List.all_eq_true] at hts
  have hts1 : ∀ t ∈ fn.params.toList, t < P.types.size := fun t ht => by
    have := hts t ht
    rw [Bool.and_eq_true] at this
    exact of_decide_eq_true this.1
  have hts2 : ∀ t ∈ fn.params.toList, (shp P 8 t).isSome = true := fun t ht => by
    have := hts t ht
    rw [Bool.and_eq_true] at this
    exact this.2
  obtain ⟨l1, l2, as, l3, h3, h4⟩ := args_fit hA (fun j t v ht hv => hval j t v (by simpa using ht) (by simpa using hv)) hts2
  have h5 := hEx _ _ _ hA as l3 h4
  subst hP
  refine (law_calls (w := W) hext (hlaw as l3 h3 h5) (by simpa using l1.trans l3.symm) ?_).mono fun e W' ⟨he, ho⟩ => ?_
  · intro i x v hx hv
    exact h4 i x v hx (by simpa using hv)
  · subst he
    refine ⟨_, rfl, post_old (pa := p) (pv := []) hW' ?_ ?_ ?_ (by simp) ho ?_⟩
    · intro b sp hd
      rw [hres, List.append_nil, hspec _ _ l2]
      exact trodAll_mk1 (shut_bool hb true)
    · intro sp' hs
      rw [List.append_nil, hspec _ _ l2]
      exact trodAll_back hl hm hz ho hA hts1 (fun p hp => hs p (by simpa using hp))
    · intro sp' hs
      rw [hv, List.append_nil, hspec _ _ l2]
      exact rfl
    · exact ok_one hres rfl (okWide_bool_mk hb true)
/-- the same, with as many rounds as the arguments ask for -/
theorem law_uptoE {cx : Cx} {ext : FnA} (hP : cx.P = P) (hext : ∀ f args bx r bx', ext f args bx = some (r, bx') → Sound cx.P f args bx r bx') {f : FuncId} {fn : Func} {s : ChangeSpec} {tb : TypeId}
    (hl : laidOutB P = true) (hm : mapsRowed P = true) (hz : slicesPos P = true) (hts : fn.params.toList.all (fun t => decide (t < P.types.size) && (shp P 8 t).isSome) = true)
    (hv : s.vars = []) (hspec : ∀ (H : Type) (ds : List (DataW H)), ds.length = fn.params.toList.length → s.fn H ds = { results := [.lit (.bool true)], args := ds })
    (hres : fn.resultTypes = #[tb]) (hb : P.underlying tb = some .bool) (Ex : List AV → Prop)
    (hlaw : ∀ as : List AV, as.length = fn.params.toList.length → (∀ (j : Nat) (t : TypeId) (a : AV), fn.params.toList[j]? = some t → as[j]? = some a → ArgFit P t a) → Ex as → ∃ n, cf (evFn cx ext n) f as = some (.v (.bool true)))
    {apart : Bool} {base : Nat} {args : Array Value} {ds gs : List (DataW H)} {before : List MemPlace} (hW : DataW.Whole enc P fn.params.toList s.vars apart W args.toList ds gs before)
    (hval : ∀ (j : Nat) t v, fn.params[j]? = some t → args[j]? = some v → Value.okWide P W .any base t v)
    (hEx : ∀ p sp held, DataW.TrodAll enc P W 0 sp held fn.params.toList args.toList ds p → ∀ as : List AV, as.length = fn.params.toList.length → (∀ (i : Nat) (x : AV) (v : Value), as[i]? = some x → args.toList[i]? = some v → VR W (im (G0 W) W []) [] x v) → Ex as) :
    Calls P f args W fun e W' => ∃ v, e = .returned v ∧ s.post enc P fn apart true false false W args v W' := by
  have hW' := hW
  obtain ⟨p, q, hA, hV, rfl, hfz, hnd⟩ := hW
  rw [hv] at hV
  obtain ⟨rfl, rfl⟩ := trodVars_none hV
  rw [List.all_eq_true] at hts
  have hts1 : ∀ t ∈ fn.params.toList, t < P.types.size := fun t ht => by
    have := hts t ht
    rw [Bool.and_eq_true] at this
    exact of_decide_eq_true this.1
  have hts2 : ∀ t ∈ fn.params.toList, (shp P 8 t).isSome = true := fun t ht => by
    have := hts t ht
    rw [Bool.and_eq_true] at this
    exact this.2
  obtain ⟨l1, l2, as, l3, h3, h4⟩ := args_fit hA (fun j t v ht hv => hval j t v (by simpa using ht) (by simpa using hv)) hts2
  have h5 := hEx _ _ _ hA as l3 h4
  obtain ⟨n, hcf⟩ := hlaw as l3 h3 h5
  subst hP
  refine (law_calls (w := W) hext hcf (by simpa using l1.trans l3.symm) ?_).mono fun e W' ⟨he, ho⟩ => ?_
  · intro i x v hx hv
    exact h4 i x v hx (by simpa using hv)
  · subst he
    refine ⟨_, rfl, post_old (pa := p) (pv := []) hW' ?_ ?_ ?_ (by simp) ho ?_⟩
    · intro b sp hd
      rw [hres, List.append_nil, hspec _ _ l2]
      exact trodAll_mk1 (shut_bool hb true)
    · intro sp' hs
      rw [List.append_nil, hspec _ _ l2]
      exact trodAll_back hl hm hz ho hA hts1 (fun p hp => hs p (by simpa using hp))
    · intro sp' hs
      rw [hv, List.append_nil, hspec _ _ l2]
      exact rfl
    · exact ok_one hres rfl (okWide_bool_mk hb true)
end
end Go.Sy
