/-
  A range over a map, by hand: its rounds, whatever their order.
-/
import Derived.Maps.RangeRun
import Derived.Test.YtijmfjpcjceejaaSyPiece
namespace Go.Sy
section
variable {P : Program} {G : Gh} {w : World} {β : Beta} {bx : Bx}

theorem next_gen {w : World} {r bm cl : Nat} {seen : Array Nat} {es : Array MapEntry} (ty : TypeId) (hr : w.heap[r]? = some (.mapIter (some bm) cl seen cl)) (hb : w.heap[bm]? = some (.map es cl)) (hold : ∀ x ∈ es.toList, x.born < cl) :
    ((∀ x ∈ es.toList, x.born ∈ seen) ∧ (Instr.next (.pointer (some ⟨r, 0, none⟩)) false ty).run P w = .ok (.tuple #[.bool false]) w) ∨
    ∃ e ∈ es.toList, e.born ∉ seen ∧ ∃ w' : World, w'.heap = w.heap.setIfInBounds r (.mapIter (some bm) cl (seen.push e.born) cl) ∧ (w'.os = w.os ∧ w'.output = w.output ∧ w'.tape = w.tape) ∧
      (Instr.next (.pointer (some ⟨r, 0, none⟩)) false ty).run P w = .ok (.tuple #[.bool true, e.key, e.val]) w' := by
  simp only [Instr.next, getObj, Sem.run_bind, Sem.run, hr, hb, Result.andThen, next_test_false seen es cl cl hold (Nat.le_refl _), Bool.false_eq_true, if_false]
  have hmem : ∀ x ∈ (Array.filter (fun e => !seen.contains e.born) es).toList, x ∈ es.toList ∧ x.born ∉ seen := fun x hx => by
    simp only [Array.toList_filter, List.mem_filter] at hx
    exact ⟨hx.1, by simpa using hx.2⟩
  have hall : (Array.filter (fun e => !seen.contains e.born) es) = #[] → ∀ x ∈ es.toList, x.born ∈ seen := fun h x hx => by
    rw [Array.filter_eq_empty_iff] at h
    have := h x (by simpa using hx)
    simpa using this
  generalize Array.filter (fun e => !seen.contains e.born) es = L at hmem hall ⊢
  have e1' : L.filter (fun x => decide (x.born < cl)) = L := Array.filter_eq_self.2 (fun x hx => by simpa using hold x (hmem x (by simpa using hx)).1)
  have e2' : L.filter (fun x => decide (x.born ≥ cl)) = #[] := by
    rw [Array.filter_eq_empty_iff]
    intro x hx
    have := hold x (hmem x (by simpa using hx)).1
    simp
    omega
  simp only [e1', e2', Array.append_empty]
  by_cases h0 : L.size = 0
  · left
    have : L = #[] := Array.eq_empty_of_size_eq_zero h0
    refine ⟨hall this, ?_⟩
    subst this
    simp [choose, Sem.run, Question.forced]
  · right
    have hne : L.isEmpty = false := by simp [Array.isEmpty, h0]
    simp only [hne, Bool.false_eq_true, if_false, Array.empty_append, Array.size_map]
    have hch : ∃ (j : Nat) (w1 : World), j < L.size ∧ (w1.heap = w.heap ∧ w1.os = w.os ∧ w1.output = w.output ∧ w1.tape = w.tape) ∧ (choose (Question.mapNext L.size)).run P w = .ok j w1 := by
      by_cases hf : L.size ≤ 1
      · exact ⟨0, w, by omega, ⟨rfl, rfl, rfl, rfl⟩, by simp [choose, Sem.run, Question.forced, hf]⟩
      · exact ⟨_, w.drew, Nat.mod_lt _ (by omega), ⟨rfl, rfl, rfl, rfl⟩, by
          simp only [choose, Sem.run, Question.forced, decide_eq_true_eq, hf, if_false, Question.cut]
          rfl⟩
    obtain ⟨j, w1, hj, hal, hrun⟩ := hch
    obtain ⟨m1, m2⟩ := hmem L[j] (by simp)
    refine ⟨L[j], m1, m2, { w1 with heap := w1.heap.setIfInBounds r (.mapIter (some bm) cl (seen.push L[j].born) cl) }, by rw [← hal.1], ⟨hal.2.1, hal.2.2.1, hal.2.2.2⟩, ?_⟩
    have hset : ∀ (o' : Obj), (setObj r o').run P w1 = .ok () { w1 with heap := w1.heap.setIfInBounds r o' } := fun o' => by
      simp only [setObj, Sem.run]
      rw [hal.1, hr]
    simp only [hrun, Array.getElem?_map, Array.getElem?_eq_getElem hj, Option.map_some, Sem.run_bind, hset, Result.andThen]
    rfl
theorem find_nodup : ∀ (es : List MapEntry), (es.map (·.born)).Nodup → ∀ e ∈ es, es.find? (·.born == e.born) = some e
  | [], _, e, h => by cases h
  | a :: es, hn, e, h => by
    rw [List.map_cons, List.nodup_cons] at hn
    rw [List.find?_cons]
    rcases List.mem_cons.1 h with rfl | h
    · simp
    · have : a.born ≠ e.born := fun hc => hn.1 (by rw [hc]; exact List.mem_map.2 ⟨e, h, rfl⟩)
      have hb : (a.born == e.born) = false := by simpa using this
      rw [hb]
      exact find_nodup es hn.2 e h
theorem entry_gen {w : World} {r bm cl b : Nat} {seen : Array Nat} {es : Array MapEntry} {e : MapEntry} (hr : w.heap[r]? = some (.mapIter (some bm) cl (seen.push b) cl)) (hb : w.heap[bm]? = some (.map es cl))
    (he : es.toList.find? (·.born == b) = some e) : (Instr.entry (.pointer (some ⟨r, 0, none⟩))).run P w = .ok (.tuple #[e.key, e.val]) w := by
  have he' : es.find? (·.born == b) = some e := by rw [← Array.find?_toList]; exact he
  simp [Instr.entry, getObj, Sem.run, hr, hb, Result.andThen, he']

/-- an iterator that no box owns has turned -/
theorem MR.iter (hM : MR G w β bx) {w' : World} {r : Nat} (hr : G.z0 ≤ r) (ho : ¬ owned β r) (hi : ∃ m a s c, w.heap[r]? = some (.mapIter m a s c)) (hi' : ∃ m a s c, w'.heap[r]? = some (.mapIter m a s c))
    (hs : w'.heap.size = w.heap.size) (hh : ∀ k, k ≠ r → w'.heap[k]? = w.heap[k]?) (hout : w'.os = w.os ∧ w'.output = w.output ∧ w'.tape = w.tape) : MR G w' β bx ∧ Ext G allq w β w' β := by
  have hc : ∀ k o, w'.cell? ⟨k, o, Option.none⟩ = w.cell? ⟨k, o, Option.none⟩ := by
    intro k o
    by_cases e : k = r
    · subst e
      obtain ⟨m, a, s, c, h1⟩ := hi
      obtain ⟨m', a', s', c', h2⟩ := hi'
      simp only [World.cell?, h1, h2]
    · exact cell_heap (hh k e) o
  have e : Ext G allq w β w' β := by
    refine ⟨by omega, fun k hk _ => hh k (by omega), fun f k hi => ⟨hi.imp id fun h => ⟨h.1, by omega, h.2.2⟩, fun o => hc k o⟩, .same fun _ _ _ h => h, fun b k o c E fz _ hb hc => ⟨c, fz, ?_, rfl⟩, fun _ _ h => h, hout⟩
    rw [hh k (fun e => ho (owned_at (e ▸ hb)))]
    exact hc
  refine ⟨⟨hM.len, hM.uniq, fun b k o l hb hl => ?_, fun b k l hb hl => ?_, fun b e g l hb hl => hM.grsk hb hl fun k _ hk => hh k (fun e => ho ⟨b, _, hb, e ▸ hk⟩), hM.frle, hM.leold, by have := hM.sz; omega⟩, e⟩
  · obtain ⟨c, E, fz, h1, h2, h3, h4, h5⟩ := hM.born b k o l hb hl
    exact ⟨c, E, fz, by rw [hh k (fun e => ho (owned_at (e ▸ hb)))]; exact h1, h2, h3, h4, fun i x y hx hy => e.vr (h5 i x y hx hy)⟩
  · obtain ⟨es, cl, h1, h2⟩ := hM.maps b k l hb hl
    exact ⟨es, cl, by rw [hh k (fun e => ho (owned_mp (e ▸ hb)))]; exact h1, h2.imp fun _ _ h => e.vr h⟩
theorem ER.obj {ds : List Deferred} {N : Nat} {env : Env} {a : Act} (hM : MR G w β bx) (h : ER ds G w β N env a) : ER ds (G.obj w β) w β N env a := ⟨h.sz, h.df, fun t => hM.objv (h.vr t)⟩
/-- behind a piece that was handed the boxes: all elder memory that no box owns is as it was -/
theorem from_obj {ds : List Deferred} {N : Nat} {env : Env} {a : Act} (hM : MR G w β bx) {w' : World} {β' : Beta} {bx' : Bx} (h : Ext (G.obj w β) (fun b => decide (b < bx.length)) w β w' β') (hM' : MR (G.obj w β) w' β' bx') (hR : ER ds (G.obj w β) w' β' N env a) :
    Ext G allq w β w' β' ∧ MR G w' β' bx' ∧ ER ds G w' β' N env a ∧ ∀ k, k < w.heap.size → ¬ owned β k → w'.heap[k]? = w.heap[k]? ∧ ¬ owned β' k := by
  obtain ⟨g1, g2, g3⟩ := obj_back hM h hM'
  exact ⟨g1, g2, ⟨hR.sz, hR.df, fun t => g3 (hR.vr t)⟩, fun k hk ho => ⟨h.old k hk ho, fun h2 => ho (h.own' k hk h2)⟩⟩
end

/-- a map's box: its types' entries and stamps -/
structure MpBox (es : List AV) (bs : List Nat) (cl : Nat) (l : List AV) : Prop where
  eq : l = stH cl bs :: es
  lt : ∀ b ∈ bs, b < cl
  nd : bs.Nodup
theorem stH_inj {c c' : Nat} {l l' : List Nat} (h : stH c l = stH c' l') : c = c' ∧ l = l' := by
  unfold stH at h
  simp only [AV.tup.injEq, List.cons.injEq, AV.v.injEq, Value.int.injEq, true_and] at h
  refine ⟨by omega, ?_⟩
  have h2 := h.2
  clear h
  induction l generalizing l' with
  | nil => cases l' with
    | nil => rfl
    | cons a l' => simp at h2
  | cons a l ih => cases l' with
    | nil => simp at h2
    | cons b l' =>
      simp only [List.map_cons, List.cons.injEq, AV.v.injEq, Value.int.injEq, true_and] at h2
      rw [ih h2.2]
      congr 1
      omega
theorem MpBox.at {G : Gh} {w : World} {β : Beta} {bx : Bx} {m blk : Nat} {es : List AV} {bs : List Nat} {cl : Nat} {l : List AV} (hB : MpBox es bs cl l) (hM : MR G w β bx) (hb : β[m]? = some (.mpl blk)) (hl : bx[m]? = some l) :
    ∃ ms : Array MapEntry, w.heap[blk]? = some (.map ms cl) ∧ ms.toList.map (·.born) = bs ∧ EsR w (im G w β) β es ms.toList := by
  obtain ⟨ms, c, h1, t, h2, h3⟩ := hM.maps m blk l hb hl
  rw [hB.eq, List.cons.injEq] at h2
  obtain ⟨g1, g2⟩ := stH_inj h2.1
  subst g1
  exact ⟨ms, h1, g2.symm, by rw [h2.2]; exact h3⟩
/-- one operation that the reader reads -/
theorem list_op {P : Program} {E : FnA} (hE : ∀ f args bx r bx', E f args bx = some (r, bx') → Sound P f args bx r bx') {md : FuncId → Md} {N n0 : Nat} {ops : Array Oper} {Q : Exit → Act → World → Prop} {G : Gh} {ds : List Deferred} {o : Oper} {rest : List Oper}
    {w : World} {β : Beta} {bx bx' : Bx} {env env' env2 : Env} {a : Act} {r : AV} (hg : o.guard = none) (hna : noApp o.op = true) (h : evOp P md E n0 env bx o.op = some (r, env', bx')) (hp : put N o.dst r env = some env2) (hM : MR G w β bx) (hR : ER ds G w β N env a)
    (hK : ∀ a' w' β', Ext G allq w β w' β' → MR G w' β' bx' → ER ds G w' β' N env2 a' → wpList P ops Q rest a' w') : wpList P ops Q (o :: rest) a w := by
  refine wpList_plain hg fun K hK' => ?_
  obtain ⟨_, hs⟩ := evOp_str hM hE h (fun x _ => hR.opnd x) hna
  refine hs K Q fun v w' β' ⟨e1, m1, hv⟩ => hK' _ _ (hK _ _ _ e1 m1 (ER.put ⟨hR.sz, hR.df, fun t => e1.vr (hR.vr t)⟩ hp hv))
/-- the code of such a loop's rounds -/
structure RgCode (cB : Code) (it tn tc te id id1 : Nat) (rest : Code) (ops5 ops6 : Array Oper) (o1 o2 oe : Oper) (more : List Oper) : Prop where
  eq : ∃ i5 i6, cB = .seq (.region i5 ops5 false) (.seq (.cond (.tmp tc) .skip (.exit id)) (.block id1 (.seq (.region i6 ops6 false) rest)))
  l5 : ops5.toList = [o1, o2]
  n1 : o1.op = .next (.tmp it) false ∧ o1.dst = some tn ∧ o1.guard = none
  n2 : o2.op = .extract (.tmp tn) 0 ∧ o2.dst = some tc ∧ o2.guard = none
  l6 : ops6.toList = oe :: more
  ne : oe.op = .entry (.tmp it) ∧ oe.dst = some te ∧ oe.guard = none

theorem tup_ok {w : World} {im0 : Bool → Nat → Prop} {β : Beta} {x y z : AV} {a b c : Value} (h1 : VR w im0 β x a) (h2 : VR w im0 β y b) (h3 : VR w im0 β z c) : VR w im0 β (.tup [x, y, z]) (.tuple #[a, b, c]) := by
  refine .tup _ _ rfl fun i u v hu hv => ?_
  rcases i with _ | _ | _ | i
  · simp at hu hv; subst hu; subst hv; exact h1
  · simp at hu hv; subst hu; subst hv; exact h2
  · simp at hu hv; subst hu; subst hv; exact h3
  · simp at hu
theorem tup_ok2 {w : World} {im0 : Bool → Nat → Prop} {β : Beta} {x y : AV} {a b : Value} (h1 : VR w im0 β x a) (h2 : VR w im0 β y b) : VR w im0 β (.tup [x, y]) (.tuple #[a, b]) := by
  refine .tup _ _ rfl fun i u v hu hv => ?_
  rcases i with _ | _ | i
  · simp at hu hv; subst hu; subst hv; exact h1
  · simp at hu hv; subst hu; subst hv; exact h2
  · simp at hu
theorem tup_ok1 {w : World} {im0 : Bool → Nat → Prop} {β : Beta} {x : AV} {a : Value} (h1 : VR w im0 β x a) : VR w im0 β (.tup [x]) (.tuple #[a]) := by
  refine .tup _ _ rfl fun i u v hu hv => ?_
  rcases i with _ | i
  · simp at hu hv; subst hu; subst hv; exact h1
  · simp at hu
theorem ER.val {ds : List Deferred} {G : Gh} {w : World} {β : Beta} {N : Nat} {env : Env} {a : Act} (h : ER ds G w β N env a) {t : Nat} {v : Value} (hg : get env t = .v v) : a.eval (.tmp t) = v := by
  have := h.opnd (.tmp t)
  have e : Sy.opnd env (.tmp t) = .v v := hg
  rw [e] at this
  generalize a.eval (.tmp t) = y at this ⊢
  cases this
  rfl
theorem ER.sub {ds : List Deferred} {G : Gh} {w : World} {β : Beta} {N : Nat} {env env' : Env} {a : Act} (h : ER ds G w β N env a) (hs : ∀ t, get env' t = get env t ∨ get env' t = .junk) : ER ds G w β N env' a := by
  refine ⟨h.sz, h.df, fun t => ?_⟩
  rcases hs t with e | e
  · rw [e]; exact h.vr t
  · rw [e]; exact .junk _

theorem get_no {env : Env} {t : Nat} (h : ∀ p ∈ env, p.1 ≠ t) : get env t = .junk := by
  induction env with
  | nil => rfl
  | cons p env ih =>
    obtain ⟨k, y⟩ := p
    simp only [get]
    rw [if_neg (h (k, y) (by simp))]
    exact ih fun p hp => h p (by simp [hp])
theorem get_past {env : Env} {it t0 : Nat} {v z : AV} (hne : it ≠ t0) (h : ∀ p ∈ env, p.1 ≠ t0) (t : Nat) : get ((it, v) :: env) t = get ((t0, z) :: (it, v) :: env) t ∨ get ((it, v) :: env) t = .junk := by
  by_cases e : t0 = t
  · subst e
    right
    simp only [get]
    rw [if_neg hne]
    exact get_no h
  · left
    simp only [get]
    rw [if_neg e]

theorem nodup_len : ∀ (l l' : List Nat), l.Nodup → (∀ s ∈ l, s ∈ l') → l.length ≤ l'.length
  | [], _, _, _ => Nat.zero_le _
  | a :: l, l', hn, hs => by
    rw [List.nodup_cons] at hn
    have ha := hs a (by simp)
    have := nodup_len l (l'.erase a) hn.2 fun s h => (List.mem_erase_of_ne (by rintro rfl; exact hn.1 h)).2 (hs s (by simp [h]))
    rw [List.length_erase_of_mem ha] at this
    have hpos := List.length_pos_of_mem ha
    rw [List.length_cons]
    omega
theorem range_loop {P : Program} {E : FnA} (hE : ∀ f args bx r bx', E f args bx = some (r, bx') → Sound P f args bx r bx') {md : FuncId → Md} {N n : Nat} {cB rest : Code} {it tn tc te id id1 : Nat} {ops5 ops6 : Array Oper} {o1 o2 oe : Oper} {more : List Oper}
    (RC : RgCode cB it tn tc te id id1 rest ops5 ops6 o1 o2 oe more) (hN : it < N ∧ tn < N ∧ tc < N ∧ te < N) (hne : it ≠ tn ∧ it ≠ tc ∧ it ≠ te) (hdr : drawsOk P md rest = true)
    {env0 : Env} (hk0 : ∀ p ∈ env0, p.1 ≠ it ∧ p.1 ≠ tn ∧ p.1 ≠ tc ∧ p.1 ≠ te) {es : List AV} {bs : List Nat} {cl m : Nat} {l : List AV} (hB : MpBox es bs cl l) (B : List Nat → Bx) (hBm : ∀ seen, (B seen)[m]? = some l)
    (body : ∀ (itv : Value) (seen : List Nat) (b : Nat) (k : Value) (x : AV) (i : Nat), bs[i]? = some b → es[i]? = some (.tup [.v k, x]) → b ∉ seen → (∀ s ∈ seen, s ∈ bs) → seen.Nodup →
      ∃ env6 env7 r, evOps P md E N (B seen).length (fun _ => true) ops6 more ((te, .tup [.v k, x]) :: (it, .v itv) :: env0) (B seen) = some (env6, B seen) ∧ (∀ t, get env7 t = get env6 t ∨ get env7 t = .junk) ∧
        evK P md E N none n (B seen).length rest ⟨env7, B seen⟩ (fun s => some (.normal, s)) (fun i s => some (.exit i, s)) = r ∧
        Ends r fun ex s' => ex = .normal ∧ s'.bx = B (seen ++ [b]) ∧ ∀ t, get ((it, AV.v itv) :: env0) t = get s'.env t ∨ get ((it, AV.v itv) :: env0) t = .junk)
    {ds : List Deferred} {G : Gh} {w : World} {β : Beta} {a : Act} {Q : Exit → Act → World → Prop} {r blk : Nat} (hM : MR G w β (B [])) (hR : ER ds G w β N ((it, .v (.pointer (some ⟨r, 0, none⟩))) :: env0) a)
    (hi : w.heap[r]? = some (.mapIter (some blk) cl #[] cl)) (hz : G.z0 ≤ r) (ho : ¬ owned β r) (hm : β[m]? = some (.mpl blk))
    (hQ : ∀ seen a' w' β', (∀ b ∈ bs, b ∈ seen) → seen.Nodup → (∀ s ∈ seen, s ∈ bs) → Ext G allq w β w' β' → MR G w' β' (B seen) → ER ds G w' β' N ((it, .v (.pointer (some ⟨r, 0, none⟩))) :: env0) a' → Q .normal a' w') :
    (Code.block id (.loop cB)).wp P Q a w := by
  refine wp_block ?_
  refine wp_rounds (fun d x u => ∃ (seen : List Nat) (γ : Beta), d + seen.length = bs.length ∧ seen.Nodup ∧ (∀ s ∈ seen, s ∈ bs) ∧ Ext G allq w β u γ ∧ MR G u γ (B seen) ∧ ER ds G u γ N ((it, .v (.pointer (some ⟨r, 0, none⟩))) :: env0) x ∧ u.heap[r]? = some (.mapIter (some blk) cl seen.toArray cl) ∧ ¬ owned γ r)
    (n := bs.length) ⟨[], β, by simp, .nil, by simp, .refl _ _ _ _, hM, hR, hi, ho⟩ ?_
  rintro d x u ⟨seen, γ, hd, hnd, hsub, e0, m0, r0, i0, n0⟩
  obtain ⟨i5, i6, hc⟩ := RC.eq
  rw [hc]
  refine wp_seq ?_
  refine wp_region_list ?_
  rw [RC.l5]
  have hmm : γ[m]? = some (.mpl blk) := e0.bt.mpl rfl hm
  obtain ⟨ms, h1, h2, h3⟩ := hB.at m0 hmm (hBm seen)
  have hold : ∀ y ∈ ms.toList, y.born < cl := fun y hy => hB.lt _ (by rw [← h2]; exact List.mem_map.2 ⟨y, hy, rfl⟩)
  have hit := r0.val (t := it) (v := .pointer (some ⟨r, 0, none⟩)) (by simp [get])
  have hexec : ∀ (y : Act), y.eval (.tmp it) = .pointer (some ⟨r, 0, none⟩) → execOp y.eval o1 = (do pure (.value (← Instr.next (.pointer (some ⟨r, 0, none⟩)) false o1.type)) : Sem Next) := by
    intro y hy
    obtain ⟨d', op, ty, ps, af, gd⟩ := o1
    have := RC.n1.1
    simp only at this
    subst this
    simp only [execOp, hy]
  have ext1 : ∀ (v : AV), evOps P md E N (B seen).length (fun _ => true) ops5 [o2] ((tn, v) :: (it, .v (.pointer (some ⟨r, 0, none⟩))) :: env0) (B seen) = (match v with | .tup l => (l[0]?).bind fun z => some ((tc, z) :: (tn, v) :: (it, .v (.pointer (some ⟨r, 0, none⟩))) :: env0, B seen) | _ => none) := by
    intro v
    simp only [evOps, if_true, wantA, RC.n2.2.2, evOp, RC.n2.1, RC.n2.2.1, Sy.opnd, get, if_true, put, hN.2.2.1]
    cases v <;> simp
    rename_i l
    cases l[0]? <;> rfl
  rcases next_gen o1.type i0 h1 hold with ⟨hall, hrun⟩ | ⟨e, he, hes, u2, q1, q2, hrun⟩
  · -- nothing is left
    refine list_value (s := Instr.next (.pointer (some ⟨r, 0, none⟩)) false o1.type) RC.n1.2.2 (hexec x hit) hrun ?_
    have ra : ER ds (G.obj u γ) u γ N ((tn, .tup [.v (.bool false)]) :: (it, .v (.pointer (some ⟨r, 0, none⟩))) :: env0) (x.put o1.dst (.tuple #[.bool false])) := by
      rw [RC.n1.2.1]
      exact (ER.obj m0 r0).put (by simp [put, hN.2.1]) (tup_ok1 (.v _))
    refine list_ops (n0 := (B seen).length) hE (md := md) (ops := ops5) [o2] (ext1 _) m0.obj ra ?_
    intro x' u' γ' ex' mx rx
    obtain ⟨e1, m1, r1, hold1⟩ := from_obj m0 ex' mx rx
    refine wp_seq ?_
    refine wp_cond_false (r1.val (t := tc) (v := .bool false) (by simp [get])) ?_
    refine wp_exit ?_
    have key : Q .normal x' u' → Exit.inBlock id Q (.exit id) x' u' := by
      intro h
      simp only [Exit.inBlock, if_true]
      exact h
    refine key (hQ seen x' u' γ' (fun b hb => ?_) hnd hsub (e0.trans e1) m1 (r1.sub fun t => ?_))
    · rw [← h2] at hb
      obtain ⟨y, hy, rfl⟩ := List.mem_map.1 hb
      simpa using hall y hy
    · by_cases et : tc = t
      · subst et
        right
        simp only [get]
        rw [if_neg hne.2.1]
        exact get_no fun p hp => (hk0 p hp).2.2.1
      · rcases get_past (v := .v (.pointer (some ⟨r, 0, none⟩))) (z := .tup [.v (.bool false)]) hne.1 (fun p hp => (hk0 p hp).2.1) t with h | h
        · left
          rw [h]
          conv => rhs; rw [get]
          rw [if_neg et]
        · exact .inr h
  · -- an entry has come
    have hes' : e.born ∉ seen := by simpa using hes
    refine list_value (s := Instr.next (.pointer (some ⟨r, 0, none⟩)) false o1.type) RC.n1.2.2 (hexec x hit) hrun ?_
    have hrlt : r < u.heap.size := (Array.getElem?_eq_some_iff.1 i0).1
    have hh2 : ∀ j, j ≠ r → u2.heap[j]? = u.heap[j]? := fun j hj => by rw [q1, Array.getElem?_setIfInBounds_ne (Ne.symm hj)]
    have hi2 : u2.heap[r]? = some (.mapIter (some blk) cl (seen.toArray.push e.born) cl) := by rw [q1, Array.getElem?_setIfInBounds_self_of_lt hrlt]
    obtain ⟨m2, e2⟩ := m0.iter hz n0 ⟨_, _, _, _, i0⟩ ⟨_, _, _, _, hi2⟩ (by rw [q1, Array.size_setIfInBounds]) hh2 q2
    have r2 : ER ds G u2 γ N ((it, .v (.pointer (some ⟨r, 0, none⟩))) :: env0) x := ⟨r0.sz, r0.df, fun t => e2.vr (r0.vr t)⟩
    have ra : ER ds (G.obj u2 γ) u2 γ N ((tn, .tup [.v (.bool true), .v e.key, .junk]) :: (it, .v (.pointer (some ⟨r, 0, none⟩))) :: env0) (x.put o1.dst (.tuple #[.bool true, e.key, e.val])) := by
      rw [RC.n1.2.1]
      exact (ER.obj m2 r2).put (by simp [put, hN.2.1]) (tup_ok (.v _) (.v _) (.junk _))
    refine list_ops (n0 := (B seen).length) hE (md := md) (ops := ops5) [o2] (ext1 _) m2.obj ra ?_
    intro x' u' γ' ex' mx rx
    obtain ⟨e3, m3, r3, hold3⟩ := from_obj m2 ex' mx rx
    have hr2 : r < u2.heap.size := by rw [q1, Array.size_setIfInBounds]; exact hrlt
    obtain ⟨hi3, n3⟩ := hold3 r hr2 n0
    rw [hi2] at hi3
    refine wp_seq ?_
    refine wp_cond_true (r3.val (t := tc) (v := .bool true) (by simp [get])) ?_
    refine wp_skip ?_
    show Code.wp _ _ _ _ _
    refine wp_block ?_
    refine wp_seq ?_
    refine wp_region_list ?_
    rw [RC.l6]
    have e023 := (e0.trans e2).trans e3
    have hm3 : γ'[m]? = some (.mpl blk) := e023.bt.mpl rfl hm
    obtain ⟨ms', k1, k2, k3⟩ := hB.at m3 hm3 (hBm seen)
    have hbin : e.born ∈ bs := by rw [← h2]; exact List.mem_map.2 ⟨e, he, rfl⟩
    obtain ⟨i, hib⟩ := List.getElem?_of_mem hbin
    have hib' := hib
    rw [← k2, List.getElem?_map, Option.map_eq_some_iff] at hib'
    obtain ⟨e', he', hbe⟩ := hib'
    have hfind : ms'.toList.find? (·.born == e.born) = some e' := by
      rw [← hbe]
      exact find_nodup ms'.toList (by rw [k2]; exact hB.nd) e' (List.mem_of_getElem? he')
    have hlt : i < es.length := by rw [← k3.1]; exact (List.getElem?_eq_some_iff.1 he').1
    obtain ⟨xv, hx1, hx2⟩ := k3.2 i _ e' (List.getElem?_eq_getElem hlt) he'
    have hesi : es[i]? = some (.tup [.v e'.key, xv]) := by rw [List.getElem?_eq_getElem hlt, hx1]
    obtain ⟨env6, env7, rr, b1, b2, b3, b4⟩ := body (.pointer (some ⟨r, 0, none⟩)) seen e.born e'.key xv i hib hesi hes' hsub hnd
    have r3' : ER ds G u' γ' N ((it, .v (.pointer (some ⟨r, 0, none⟩))) :: env0) x' := r3.sub fun t => by
      by_cases et : tc = t
      · subst et
        right
        simp only [get]
        rw [if_neg hne.2.1]
        exact get_no fun p hp => (hk0 p hp).2.2.1
      · rcases get_past (v := .v (.pointer (some ⟨r, 0, none⟩))) (z := .tup [.v (.bool true), .v e.key, .junk]) hne.1 (fun p hp => (hk0 p hp).2.1) t with h | h
        · left
          rw [h]
          conv => rhs; rw [get]
          rw [if_neg et]
        · exact .inr h
    have hit' := r3'.val (t := it) (v := .pointer (some ⟨r, 0, none⟩)) (by simp [get])
    refine list_value (s := Instr.entry (.pointer (some ⟨r, 0, none⟩))) RC.ne.2.2 ?_ (entry_gen hi3 k1 hfind) ?_
    · obtain ⟨d', op, ty, ps, af, gd⟩ := oe
      have := RC.ne.1
      simp only at this
      subst this
      simp only [execOp, hit']
    have rb : ER ds (G.obj u' γ') u' γ' N ((te, .tup [.v e'.key, xv]) :: (it, .v (.pointer (some ⟨r, 0, none⟩))) :: env0) (x'.put oe.dst (.tuple #[e'.key, e'.val])) := by
      rw [RC.ne.2.1]
      exact (ER.obj m3 r3').put (by simp [put, hN.2.2.2]) (tup_ok2 (.v _) (m3.objv hx2))
    refine list_ops (n0 := (B seen).length) hE (md := md) (ops := ops6) more b1 m3.obj rb ?_
    intro x6 u6 γ6 ex6 mx6 rx6
    obtain ⟨e6, m6, r6, hold6⟩ := from_obj m3 ex6 mx6 rx6
    obtain ⟨hi6, n6⟩ := hold6 r (by have := e3.sz; omega) n3
    rw [hi3] at hi6
    have r7 : ER ds (G.obj u6 γ6) u6 γ6 N env7 x6 := ER.obj m6 (r6.sub b2)
    show Code.wp _ _ _ _ _
    refine wp_piece (n0 := (B seen).length) (s := ⟨env7, B seen⟩) hE hdr (Nat.le_refl _) _ b3 b4 m6.obj r7 ?_
    rintro ex ⟨env9, bx9⟩ ⟨rfl, hbx, hsub9⟩ x9 u9 γ9 ex9 mx9 rx9
    simp only at hbx
    subst hbx
    obtain ⟨e9, m9, r9, hold9⟩ := from_obj m6 ex9 mx9 rx9
    obtain ⟨hi9, n9⟩ := hold9 r (by have := e3.sz; have := e6.sz; omega) n6
    rw [hi6] at hi9
    have hlen : (seen ++ [e.born]).length ≤ bs.length := by
      have hnd' : (seen ++ [e.born]).Nodup := by
        rw [List.nodup_append]
        exact ⟨hnd, by simp, fun a ha b hb => by simp at hb; subst hb; intro hc; subst hc; exact hes' ha⟩
      exact nodup_len _ _ hnd' fun s hs => by
        rcases List.mem_append.1 hs with h | h
        · exact hsub s h
        · simp at h; subst h; exact hbin
    rw [List.length_append, List.length_singleton] at hlen
    refine ⟨d - 1, by omega, seen ++ [e.born], γ9, by rw [List.length_append, List.length_singleton]; omega, ?_, ?_, (e023.trans e6).trans e9, m9, r9.sub hsub9, by rw [hi9]; simp, n9⟩
    · rw [List.nodup_append]
      exact ⟨hnd, by simp, fun a ha b hb => by simp at hb; subst hb; intro hc; subst hc; exact hes' ha⟩
    · intro s hs
      rcases List.mem_append.1 hs with h | h
      · exact hsub s h
      · simp at h; subst h; exact hbin
end Go.Sy
