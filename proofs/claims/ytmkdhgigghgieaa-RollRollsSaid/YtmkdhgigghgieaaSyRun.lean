/-
  One operation of the reader's, against the machine's.
-/
import Derived.Test.YtmkdhgigghgieaaSyOp7
namespace Go.Sy

section
variable {P : Program} {G : Gh} {w : World} {β : Beta} {bx : Bx}

theorem wp_value {o : Oper} {a : Act} {next : Act → World → Prop} {Q : Exit → Act → World → Prop} {s : Sem Value} {v : Value} {w' : World} (he : execOp a.eval o = (do pure (.value (← s)) : Sem Next))
    (hr : s.run P w = .ok v w') (hn : next (a.put o.dst v) w') : o.wp P a w next Q := by
  unfold Oper.wp
  rw [he]
  simp only [Sem.run_bind, hr, Result.andThen_ok, Sem.run_pure, Oper.upon_value]
  exact hn

/-- What an operation leaves: what it yields, and memory. -/
def PostS (G : Gh) (w : World) (β : Beta) (r : AV) (bx' : Bx) (v : Value) (w' : World) (β' : Beta) : Prop :=
  Ext G allq w β w' β' ∧ MR G w' β' bx' ∧ VR w' (im G w' β') β' r v

theorem opnd_const (im0 : Bool → Nat → Prop) (β : Beta) (env : Env) (a : Act) (v : Value) : VR w im0 β (opnd env (.const v)) (a.eval (.const v)) := .v v

theorem parts_ok {im0 : Bool → Nat → Prop} {env : Env} {a : Act} {parts : Array (Nat × Operand)} (h : ∀ x ∈ (parts.toList.map (·.2)), VR w im0 β (opnd env x) (a.eval x)) :
    PR w im0 β (parts.toList.map fun p => (p.1, opnd env p.2)) (parts.map fun (i, x) => (i, a.eval x)).toList := by
  refine ⟨by simp, fun i x y hx hy => ?_⟩
  rw [List.getElem?_map, Option.map_eq_some_iff] at hx
  obtain ⟨p, hp, rfl⟩ := hx
  have hy' : (parts.toList.map fun (i, x) => (i, a.eval x))[i]? = some y := by simpa using hy
  rw [List.getElem?_map, hp] at hy'
  simp only [Option.map_some, Option.some.injEq] at hy'
  subst hy'
  exact ⟨rfl, h p.2 (List.mem_map.mpr ⟨p, List.mem_of_getElem? hp, rfl⟩)⟩

theorem args_ok {im0 : Bool → Nat → Prop} {env : Env} {a : Act} {l : List Operand} (h : ∀ x ∈ l, VR w im0 β (opnd env x) (a.eval x)) :
    ∀ (i : Nat) (x : AV) (v : Value), (l.map (opnd env))[i]? = some x → (l.map a.eval)[i]? = some v → VR w im0 β x v := by
  intro i x v hx hv
  rw [List.getElem?_map, Option.map_eq_some_iff] at hx hv
  obtain ⟨p, hp, rfl⟩ := hx
  obtain ⟨p', hp', rfl⟩ := hv
  rw [hp] at hp'
  simp only [Option.some.injEq] at hp'
  subst hp'
  exact h p (List.mem_of_getElem? hp)

theorem or_ok {im0 : Bool → Nat → Prop} {env : Env} {a : Act} {x : Option Operand} (h : ∀ y ∈ x.toArray, VR w im0 β (opnd env y) (a.eval y)) : OR w im0 β (x.map (opnd env)) (x.map a.eval) := by
  cases x with
  | none => exact .no
  | some x => exact .yes _ _ (h x (by simp))

set_option maxHeartbeats 4000000 in
theorem evOp_str (hM : MR G w β bx) {E : FnA} (hE : ∀ f args bx r bx', E f args bx = some (r, bx') → Sound P f args bx r bx')
    {md : FuncId → Md} {n0 : Nat} {env env' : Env} {bx' : Bx} {r : AV} {o : Oper} {a : Act} (h : evOp P md E n0 env bx o.op = some (r, env', bx'))
    (ho : ∀ x ∈ o.op.operands, VR w (im G w β) β (opnd env x) (a.eval x)) (hna : noApp o.op = true) :
    env' = env ∧ ∀ (next : Act → World → Prop) (Q : Exit → Act → World → Prop), (∀ v w' β', PostS G w β r bx' v w' β' → next (a.put o.dst v) w') → o.wp P a w next Q := by
  have pure1 : ∀ {s : Sem Value} {v : Value} {r : AV}, execOp a.eval o = (do pure (.value (← s)) : Sem Next) → s.run P w = .ok v w → VR w (im G w β) β r v →
      ∀ (next : Act → World → Prop) (Q : Exit → Act → World → Prop), (∀ v w' β', PostS G w β r bx v w' β' → next (a.put o.dst v) w') → o.wp P a w next Q := by
    intro s v r he hr hv next Q hn
    exact wp_value he hr (hn v w β ⟨.refl _ _ _ _, hM, hv⟩)
  have new1 : ∀ {s : Sem Value} {r : AV} {bx1 : Bx}, execOp a.eval o = (do pure (.value (← s)) : Sem Next) → New P G w β s r bx1 →
      ∀ (next : Act → World → Prop) (Q : Exit → Act → World → Prop), (∀ v w' β', PostS G w β r bx1 v w' β' → next (a.put o.dst v) w') → o.wp P a w next Q := by
    rintro s r bx1 he ⟨v, w', β', h1, h2, h3, h4⟩ next Q hn
    exact wp_value he h1 (hn v w' β' ⟨h2, h3, h4⟩)
  have move1 : ∀ (x : Operand), (o.op = .move x ∨ o.op = .assign x) → (∀ y ∈ o.op.operands, VR w (im G w β) β (opnd env y) (a.eval y)) →
      moveA env bx x = some (r, env', bx') →
      env' = env ∧ ∀ (next : Act → World → Prop) (Q : Exit → Act → World → Prop), (∀ v w' β', PostS G w β r bx' v w' β' → next (a.put o.dst v) w') → o.wp P a w next Q := by
    intro x hx hop hh
    have he : execOp a.eval o = (do pure (.value (← (pure (a.eval x) : Sem Value))) : Sem Next) := by
      obtain ⟨dst, op, ty, pos, aft, gd⟩ := o
      rcases hx with rfl | rfl <;> rfl
    unfold moveA at hh
    split at hh
    · simp only [Option.some.injEq, Prod.mk.injEq] at hh
      obtain ⟨rfl, rfl, rfl⟩ := hh
      refine ⟨rfl, fun next Q hn => ?_⟩
      obtain ⟨m1, e1⟩ := hM.newU [] (loc := .un) (fun k h => h)
      refine wp_value he rfl (hn _ w _ ⟨e1, m1, .bslU _ 0 none ?_⟩)
      rw [List.getElem?_append_right (by rw [hM.len]; exact Nat.le_refl _)]; simp [hM.len]
    · simp only [Option.some.injEq, Prod.mk.injEq] at hh
      obtain ⟨rfl, rfl, rfl⟩ := hh
      refine ⟨rfl, pure1 he rfl (hop x ?_)⟩
      rcases hx with h | h <;> simp [h, Op.operands]
  obtain ⟨dst, op, ty, pos, aft, gd⟩ := o
  simp only at h ho hna
  cases op
  case move x => exact move1 x (.inl rfl) ho (by simpa only [evOp] using h)
  case assign x => exact move1 x (.inr rfl) ho (by simpa only [evOp] using h)
  case pick c x y =>
    have hc := ho c (by simp [Op.operands])
    have hx := ho x (by simp [Op.operands])
    have hy := ho y (by simp [Op.operands])
    simp only [evOp] at h
    split at h
    · rename_i t ht
      rw [ht] at hc
      have hc' : a.eval c = .bool t := by generalize a.eval c = v at hc ⊢; cases hc; rfl
      have he : execOp a.eval ⟨dst, .pick c x y, ty, pos, aft, gd⟩ = (do pure (.value (← (do pure (if ← asBool (a.eval c) then a.eval x else a.eval y) : Sem Value))) : Sem Next) := by
        simp [execOp]
      have hrun : (do pure (if ← asBool (a.eval c) then a.eval x else a.eval y) : Sem Value).run P w = .ok (if t then a.eval x else a.eval y) w := by
        simp [hc', asBool]
      split at h
      · rename_i p q hp hq
        simp only [Option.some.injEq, Prod.mk.injEq] at h
        obtain ⟨rfl, rfl, rfl⟩ := h
        rw [hp] at hx; rw [hq] at hy
        refine ⟨rfl, pure1 he hrun ?_⟩
        cases t
        · simpa using hy
        · simpa using hx
      · split at h
        · rename_i ht'
          simp only [Option.some.injEq, Prod.mk.injEq] at h
          obtain ⟨rfl, rfl, rfl⟩ := h
          subst ht'
          exact ⟨rfl, pure1 he hrun (by simpa using hx)⟩
        · rename_i ht'
          simp only [Option.some.injEq, Prod.mk.injEq] at h
          obtain ⟨rfl, rfl, rfl⟩ := h
          have : t = false := by simpa using ht'
          subst this
          exact ⟨rfl, pure1 he hrun (by simpa using hy)⟩
    · simp at h
  case alloc t =>
    simp only [evOp, Option.map_eq_some_iff, Prod.mk.injEq] at h
    obtain ⟨z, hz, rfl, rfl, rfl⟩ := h
    obtain ⟨v, hv, e0, h1⟩ := run_zcA (w := w) hz
    obtain ⟨n1, n2⟩ := cells_new (w := w) (β := β) e0 (im G w β)
    obtain ⟨m1, e1⟩ := hM.new n1 t #[] (by simpa using h1) n2
    refine ⟨rfl, fun next Q hn => ?_⟩
    refine wp_value (s := Instr.alloc t true (.tuple #[])) rfl ?_ (hn (.pointer (some ⟨w.heap.size, 0, none⟩)) _ _ ⟨e1, m1, ?_⟩)
    · simp only [Instr.alloc, Sem.run_bind, hv, Result.andThen_ok, newVar, newRow, run_newObj, Sem.run_pure, Array.append_empty]
      rfl
    · exact .bp _ 0 _ 0 (by rw [List.getElem?_append_right (by rw [hM.len]; exact Nat.le_refl _)]; simp [hM.len])
  case box t x =>
    have hx := ho x (by simp [Op.operands])
    simp only [evOp] at h
    split at h
    · simp only [Option.map_eq_some_iff, Prod.mk.injEq] at h
      obtain ⟨r0, hr, rfl, rfl, rfl⟩ := h
      exact ⟨rfl, new1 (s := Instr.box t (a.eval x)) rfl (boxI_ok hM hr hx)⟩
    split at h
    · simp at h
    · rename_i hk
      simp only [Option.some.injEq, Prod.mk.injEq] at h
      obtain ⟨rfl, rfl, rfl⟩ := h
      obtain ⟨g1, g2, g3⟩ := hx.cells (by simpa using hk)
      obtain ⟨m1, e1⟩ := hM.new (xs := (opnd env x).cells) (c := (a.eval x).cells) g1 t #[] (fun i y hy => g2 y (by simp at hy; exact List.mem_of_getElem? (i := i) (by simpa using hy))) (fun i p q hp hq => g3 i p q hp (by simpa using hq))
      refine ⟨rfl, fun next Q hn => ?_⟩
      refine wp_value (s := Instr.box t (a.eval x)) rfl ?_ (hn (.pointer (some ⟨w.heap.size, 0, none⟩)) _ _ ⟨e1, m1, ?_⟩)
      · simp only [Instr.box, newVar, newRow, Sem.run_bind, run_newObj, Result.andThen_ok, Sem.run_pure, Array.append_empty]
        rfl
      · exact .bp _ 0 _ 0 (by rw [List.getElem?_append_right (by rw [hM.len]; exact Nat.le_refl _)]; simp [hM.len])
  case build t parts =>
    simp only [evOp, Option.map_eq_some_iff, Prod.mk.injEq] at h
    obtain ⟨r0, hr, rfl, rfl, rfl⟩ := h
    obtain ⟨v, h1, h2⟩ := buildA_ok (P := P) hr (parts_ok fun x hx => ho x (by simpa [Op.operands] using hx))
    exact ⟨rfl, pure1 (s := Instr.build t (parts.map fun (i, x) => (i, a.eval x))) rfl h1 h2⟩
  case buildSlice t n parts =>
    simp only [evOp] at h
    split at h
    · simp only [Option.map_eq_some_iff, Prod.mk.injEq] at h
      obtain ⟨r0, hr, rfl, rfl, rfl⟩ := h
      exact ⟨rfl, new1 (s := Instr.buildSlice t n (parts.map fun (i, x) => (i, a.eval x))) rfl (litA_ok hM hr (parts_ok fun x hx => ho x (by simpa [Op.operands] using hx)))⟩
    simp only [Option.map_eq_some_iff, Prod.mk.injEq] at h
    obtain ⟨⟨r0, b0⟩, hr, rfl, rfl, rfl⟩ := h
    exact ⟨rfl, new1 (s := Instr.buildSlice t n (parts.map fun (i, x) => (i, a.eval x))) rfl (buildSliceM_ok hM hr (parts_ok fun x hx => ho x (by simpa [Op.operands] using hx)))⟩
  case load t x =>
    simp only [evOp, Option.map_eq_some_iff, Prod.mk.injEq] at h
    obtain ⟨r0, hr, rfl, rfl, rfl⟩ := h
    obtain ⟨v, h1, h2⟩ := loadA_ok (P := P) hM (ho x (by simp [Op.operands])) hr
    exact ⟨rfl, pure1 (s := Instr.loadAt t (a.eval x)) rfl h1 h2⟩
  case store t x y =>
    simp only [evOp, Option.map_eq_some_iff, Prod.mk.injEq] at h
    obtain ⟨b0, hr, rfl, rfl, rfl⟩ := h
    obtain ⟨w', h1, h2, h3⟩ := storeA_ok (P := P) hM (ho x (by simp [Op.operands])) (ho y (by simp [Op.operands])) hr
    refine ⟨rfl, fun next Q hn => ?_⟩
    unfold Oper.wp
    have : (execOp a.eval ⟨dst, .store t x y, ty, pos, aft, gd⟩).run P w = .ok .skip w' := by
      show ((do Instr.storeAt t (a.eval x) (a.eval y); pure .skip : Sem Next)).run P w = _
      simp only [Sem.run_bind, h1, Result.andThen_ok, Sem.run_pure]
    rw [this, Oper.upon_skip]
    exact hn _ w' β ⟨h3, h2, .v _⟩
  case makeMap t rs =>
    cases rs with
    | none =>
      simp only [evOp, Option.some.injEq, Prod.mk.injEq] at h
      obtain ⟨rfl, rfl, rfl⟩ := h
      exact ⟨rfl, new1 (s := Instr.makeMap t none) rfl (makeMap_ok hM t)⟩
    | some x => simp [evOp] at h
  case lookup t x i ok =>
    simp only [evOp, Option.map_eq_some_iff, Prod.mk.injEq] at h
    obtain ⟨r0, hr, rfl, rfl, rfl⟩ := h
    obtain ⟨v, h1, h2⟩ := lookA_ok (P := P) hM hr (ho x (by simp [Op.operands])) (ho i (by simp [Op.operands]))
    exact ⟨rfl, pure1 rfl h1 h2⟩
  case mapUpdate t x i y =>
    simp only [evOp, Option.map_eq_some_iff, Prod.mk.injEq] at h
    obtain ⟨b0, hr, rfl, rfl, rfl⟩ := h
    obtain ⟨w', h1, h2, h3⟩ := updA_ok (P := P) hM hr (ho x (by simp [Op.operands])) (ho i (by simp [Op.operands])) (ho y (by simp [Op.operands]))
    refine ⟨rfl, fun next Q hn => ?_⟩
    unfold Oper.wp
    have : (execOp a.eval ⟨dst, .mapUpdate t x i y, ty, pos, aft, gd⟩).run P w = .ok .skip w' := by
      show ((do Instr.mapUpdate t (a.eval x) (a.eval i) (a.eval y); pure .skip : Sem Next)).run P w = _
      simp only [Sem.run_bind, h1, Result.andThen_ok, Sem.run_pure]
    rw [this, Oper.upon_skip]
    exact hn _ w' β ⟨h3, h2, .v _⟩
  case nilCheck x =>
    have hx := ho x (by simp [Op.operands])
    simp only [evOp] at h
    have key1 : ∀ ad : Addr, a.eval x = .pointer (some ad) → execOp a.eval ⟨dst, .nilCheck x, ty, pos, aft, gd⟩ = (do pure (.value (← (pure (.pointer (some ad)) : Sem Value))) : Sem Next) := by
      intro ad hv
      simp only [execOp, hv]
      rfl
    have key2 : ∀ (f : FuncId) (p c : Array Value), a.eval x = .func (.func f) p c → execOp a.eval ⟨dst, .nilCheck x, ty, pos, aft, gd⟩ = (do pure (.value (← (pure (.func (.func f) p c) : Sem Value))) : Sem Next) := by
      intro f p c hv
      simp only [execOp, hv]
      rfl
    split at h
    · rename_i b off hb
      simp only [Option.some.injEq, Prod.mk.injEq] at h
      obtain ⟨rfl, rfl, rfl⟩ := h
      rw [hb] at hx
      generalize hv : a.eval x = v at hx
      have hx' := hx
      cases hx
      exact ⟨rfl, pure1 (key1 _ hv) rfl hx'⟩
    · rename_i l f hb
      simp only [Option.some.injEq, Prod.mk.injEq] at h
      obtain ⟨rfl, rfl, rfl⟩ := h
      rw [hb] at hx
      generalize hv : a.eval x = v at hx
      have hx' := hx
      cases hx
      exact ⟨rfl, pure1 (key1 _ hv) rfl hx'⟩
    · rename_i f pre caps hb
      simp only [Option.some.injEq, Prod.mk.injEq] at h
      obtain ⟨rfl, rfl, rfl⟩ := h
      rw [hb] at hx
      generalize hv : a.eval x = v at hx
      have hx' := hx
      cases hx
      exact ⟨rfl, pure1 (key2 _ _ _ hv) rfl hx'⟩
    · simp at h
  case binOp op t x y u =>
    simp only [evOp, Option.map_eq_some_iff, Prod.mk.injEq] at h
    obtain ⟨r0, hr, rfl, rfl, rfl⟩ := h
    obtain ⟨v, h1, h2⟩ := binA_ok (P := P) hr (ho x (by simp [Op.operands])) (ho y (by simp [Op.operands])) x y
    exact ⟨rfl, pure1 rfl h1 h2⟩
  case unOp op t x =>
    simp only [evOp, Option.map_eq_some_iff, Prod.mk.injEq] at h
    obtain ⟨r0, hr, rfl, rfl, rfl⟩ := h
    obtain ⟨v, h1, h2⟩ := unA_ok (P := P) hr (ho x (by simp [Op.operands]))
    exact ⟨rfl, pure1 rfl h1 h2⟩
  case convert s d x =>
    simp only [evOp, Option.map_eq_some_iff, Prod.mk.injEq] at h
    obtain ⟨⟨r0, b0⟩, hr, rfl, rfl, rfl⟩ := h
    exact ⟨rfl, new1 rfl (convA_ok hM hr (ho x (by simp [Op.operands])))⟩
  case sliceToArrayPointer t x =>
    simp only [evOp, Option.map_eq_some_iff, Prod.mk.injEq] at h
    obtain ⟨r0, hr, rfl, rfl, rfl⟩ := h
    obtain ⟨v, h1, h2⟩ := arrPtrA_ok (P := P) hr (ho x (by simp [Op.operands]))
    exact ⟨rfl, pure1 rfl h1 h2⟩
  case makeFunc fn pre caps =>
    cases fn <;> simp only [evOp, reduceCtorEq, Option.some.injEq, Prod.mk.injEq] at h
    obtain ⟨rfl, rfl, rfl⟩ := h
    rename_i f
    refine ⟨rfl, pure1 (s := Instr.makeFunc (.func f) (pre.map a.eval) (caps.map a.eval)) rfl rfl (.fn f _ _ _ _ (by simp) (by simp) ?_ ?_)⟩
    · intro i x y hx hy
      exact args_ok (l := pre.toList) (fun z hz => ho z (by simp only [Op.operands, Array.mem_append]; exact .inl (by simpa using hz))) i x y hx (by simpa using hy)
    · intro i x y hx hy
      exact args_ok (l := caps.toList) (fun z hz => ho z (by simp only [Op.operands, Array.mem_append]; exact .inr (by simpa using hz))) i x y hx (by simpa using hy)
  case makeSlice t l c =>
    simp only [evOp, Option.map_eq_some_iff, Prod.mk.injEq] at h
    obtain ⟨⟨r0, b0⟩, hr, rfl, rfl, rfl⟩ := h
    exact ⟨rfl, new1 rfl (makeSliceA_ok hM hr (ho l (by simp [Op.operands])) (ho c (by simp [Op.operands])))⟩
  case slice t x lo hi mx =>
    simp only [evOp, Option.map_eq_some_iff, Prod.mk.injEq] at h
    obtain ⟨r0, hr, rfl, rfl, rfl⟩ := h
    obtain ⟨v, h1, h2⟩ := sliceA_ok (P := P) hM hr (ho x (by simp [Op.operands])) (or_ok fun y hy => ho y (by simp [Op.operands] at *; simp [hy])) (or_ok fun y hy => ho y (by simp [Op.operands] at *; simp [hy])) (or_ok fun y hy => ho y (by simp [Op.operands] at *; simp [hy]))
    exact ⟨rfl, pure1 rfl h1 h2⟩
  case fieldAddr t x i =>
    simp only [evOp, Option.map_eq_some_iff, Prod.mk.injEq] at h
    obtain ⟨r0, hr, rfl, rfl, rfl⟩ := h
    obtain ⟨v, h1, h2⟩ := fieldAddrA_ok (P := P) hr (ho x (by simp [Op.operands]))
    exact ⟨rfl, pure1 rfl h1 h2⟩
  case field t x i =>
    simp only [evOp, Option.map_eq_some_iff, Prod.mk.injEq] at h
    obtain ⟨r0, hr, rfl, rfl, rfl⟩ := h
    obtain ⟨v, h1, h2⟩ := fieldA_ok (P := P) hr (ho x (by simp [Op.operands]))
    exact ⟨rfl, pure1 rfl h1 h2⟩
  case indexAddr t x i =>
    simp only [evOp, Option.map_eq_some_iff, Prod.mk.injEq] at h
    obtain ⟨r0, hr, rfl, rfl, rfl⟩ := h
    obtain ⟨v, h1, h2⟩ := indexAddrA_ok (P := P) hr (ho x (by simp [Op.operands])) (ho i (by simp [Op.operands]))
    exact ⟨rfl, pure1 rfl h1 h2⟩
  case index t x i =>
    simp only [evOp, Option.map_eq_some_iff, Prod.mk.injEq] at h
    obtain ⟨r0, hr, rfl, rfl, rfl⟩ := h
    obtain ⟨v, h1, h2⟩ := indexA_ok (P := P) hr (ho x (by simp [Op.operands])) (ho i (by simp [Op.operands]))
    exact ⟨rfl, pure1 rfl h1 h2⟩
  case extract x i =>
    have hx := ho x (by simp [Op.operands])
    simp only [evOp] at h
    split at h
    · rename_i l hl
      simp only [Option.map_eq_some_iff, Prod.mk.injEq] at h
      obtain ⟨r0, hr, rfl, rfl, rfl⟩ := h
      rw [hl] at hx
      obtain ⟨v, h1, h2⟩ := extract_ok (P := P) hr hx
      exact ⟨rfl, pure1 rfl h1 h2⟩
    · simp at h
  case call c =>
    obtain ⟨callee, args, argTypes⟩ := c
    have hoargs : ∀ x ∈ args.toList, VR w (im G w β) β (opnd env x) (a.eval x) := fun x hx => ho x (by simp only [Op.operands, Call.operands, Array.mem_append]; exact .inr (by simpa using hx))
    cases callee with
    | value g =>
      have hg := ho g (by simp [Op.operands, Call.operands])
      simp only [evOp] at h
      split at h
      · rename_i f pre caps hf
        simp only [Option.map_eq_some_iff, Prod.mk.injEq] at h
        obtain ⟨⟨r0, b0⟩, hr, rfl, rfl, rfl⟩ := h
        rw [hf] at hg
        generalize hv : a.eval g = v at hg
        cases hg with
        | fn _ _ _ pv cv hp hc h1 h2 =>
        have hsize : (pv ++ args.map a.eval ++ cv).size = (pre ++ args.toList.map (opnd env) ++ caps).length := by simp [hp, hc]
        have hargs : ∀ (i : Nat) (x : AV) (v : Value), (pre ++ args.toList.map (opnd env) ++ caps)[i]? = some x → (pv ++ args.map a.eval ++ cv)[i]? = some v → VR w (im G w β) β x v := by
          intro i x v hx hv
          rw [List.getElem?_append] at hx
          rw [Array.getElem?_append] at hv
          split at hx
          · rename_i hlt
            rw [if_pos (by simp at hlt ⊢; omega)] at hv
            rw [List.getElem?_append] at hx
            rw [Array.getElem?_append] at hv
            split at hx
            · rw [if_pos (by omega)] at hv
              exact h1 i x v hx hv
            · rw [if_neg (by omega)] at hv
              exact args_ok hoargs (i - pre.length) x v hx (by rw [← hp]; simpa using hv)
          · rename_i hge
            rw [if_neg (by simp at hge ⊢; omega)] at hv
            refine h2 (i - (pre ++ args.toList.map (opnd env)).length) x v hx ?_
            rw [← hv]; congr 1; simp [hp]
        obtain ⟨hcf, hcalls⟩ := callA_ok hM hE hr hsize hargs
        refine ⟨rfl, fun next Q hn => ?_⟩
        unfold Oper.wp
        have he : (execOp a.eval ⟨dst, .call ⟨.value g, args, argTypes⟩, ty, pos, aft, gd⟩).run P w = .ok (.enter f (pv ++ args.map a.eval ++ cv)) w := by
          simp only [execOp, resolve, hv, Deferred.ofValue, Sem.run_bind, Sem.run_pure, Result.andThen_ok, invoke]
          exact hcf _ w
        rw [he, Oper.upon_enter]
        refine hcalls.mono ?_
        rintro e w' ⟨v, β', rfl, g1, g2, g3⟩
        exact hn v w' β' ⟨g1, g2, g3⟩
      · simp at h
    | invoke g m => simp [evOp] at h
    | builtin b =>
      cases b
      case len =>
        simp only [evOp] at h
        split at h
        · rename_i x t ts hx ht
          simp only [Option.map_eq_some_iff, Prod.mk.injEq] at h
          obtain ⟨r0, hr, rfl, rfl, rfl⟩ := h
          have hx' : args = #[x] := by rw [← Array.toList_inj, hx]
          have ht' : argTypes[0]? = some t := by rw [← Array.getElem?_toList, ht]; rfl
          subst hx'
          obtain ⟨v, h1, h2⟩ : ∃ v, (Builtin.len_ argTypes ty #[a.eval x]).run P w = .ok v w ∧ VR w (im G w β) β r0 v := by
            split at hr
            · rename_i hmp
              exact lenM_ok (P := P) (u := ty) (ts := argTypes) hM hmp hr ht' (hoargs x (by simp))
            · exact lenA_ok (P := P) (u := ty) (ts := argTypes) hr ht' (hoargs x (by simp))
          exact ⟨rfl, pure1 (s := Builtin.len_ argTypes ty (#[x].map a.eval)) rfl (by simpa using h1) h2⟩
        · simp at h
      case min =>
        simp only [evOp] at h
        split at h
        · rename_i x rest hx
          simp only [Option.map_eq_some_iff, Prod.mk.injEq] at h
          obtain ⟨r0, hr, rfl, rfl, rfl⟩ := h
          obtain ⟨v, h1, h2⟩ := minL_ok (P := P) (w := w) (im0 := im G w β) (β := β) false (vs := rest.map a.eval) hr (hoargs x (by simp [hx])) (by simp) (args_ok fun z hz => hoargs z (by simp [hx, hz]))
          refine ⟨rfl, pure1 (s := Builtin.min_ argTypes ty (args.map a.eval)) rfl ?_ h2⟩
          simp only [Builtin.min_, Array.toList_map, hx, List.map_cons]
          exact h1
        · simp at h
      case max =>
        simp only [evOp] at h
        split at h
        · rename_i x rest hx
          simp only [Option.map_eq_some_iff, Prod.mk.injEq] at h
          obtain ⟨r0, hr, rfl, rfl, rfl⟩ := h
          obtain ⟨v, h1, h2⟩ := minL_ok (P := P) (w := w) (im0 := im G w β) (β := β) true (vs := rest.map a.eval) hr (hoargs x (by simp [hx])) (by simp) (args_ok fun z hz => hoargs z (by simp [hx, hz]))
          refine ⟨rfl, pure1 (s := Builtin.max_ argTypes ty (args.map a.eval)) rfl ?_ h2⟩
          simp only [Builtin.max_, Array.toList_map, hx, List.map_cons]
          exact h1
        · simp at h
      case append => simp [noApp] at hna
      case copy =>
        simp only [evOp] at h
        split at h
        · rename_i x y t ts hx ht
          simp only [Option.map_eq_some_iff, Prod.mk.injEq] at h
          obtain ⟨⟨r0, b0⟩, hr, rfl, rfl, rfl⟩ := h
          have hx' : args = #[x, y] := by rw [← Array.toList_inj, hx]
          have ht' : argTypes[0]? = some t := by rw [← Array.getElem?_toList, ht]; rfl
          subst hx'
          refine ⟨rfl, new1 (s := Builtin.copy_ argTypes ty (#[x, y].map a.eval)) rfl ?_⟩
          have := copyA_ok (P := P) (u := ty) (ts := argTypes) hM hr ht' (hoargs x (by simp)) (hoargs y (by simp))
          simpa using this
        · simp at h
      case clear =>
        simp only [evOp] at h
        split at h
        · rename_i x t ts hx ht
          simp only [Option.map_eq_some_iff, Prod.mk.injEq] at h
          obtain ⟨b0, hr, rfl, rfl, rfl⟩ := h
          have hx' : args = #[x] := by rw [← Array.toList_inj, hx]
          have ht' : argTypes[0]? = some t := by rw [← Array.getElem?_toList, ht]; rfl
          subst hx'
          refine ⟨rfl, new1 (s := Builtin.clear_ argTypes ty (#[x].map a.eval)) rfl ?_⟩
          have : New P G w β (Builtin.clear_ argTypes ty #[a.eval x]) (.v (.tuple #[])) b0 := by
            split at hr
            · rename_i hmp
              exact clrM_ok (P := P) (u := ty) (ts := argTypes) hM hmp hr ht' (hoargs x (by simp))
            · exact clearA_ok (P := P) (u := ty) (ts := argTypes) hM hr ht' (hoargs x (by simp))
          simpa using this
        · simp at h
      case delete =>
        simp only [evOp] at h
        split at h
        · rename_i x y t ts hx ht
          simp only [Option.map_eq_some_iff, Prod.mk.injEq] at h
          obtain ⟨b0, hr, rfl, rfl, rfl⟩ := h
          have hx' : args = #[x, y] := by rw [← Array.toList_inj, hx]
          have ht' : argTypes[0]? = some t := by rw [← Array.getElem?_toList, ht]; rfl
          subst hx'
          refine ⟨rfl, new1 (s := Builtin.delete_ argTypes ty (#[x, y].map a.eval)) rfl ?_⟩
          have := delA_ok (P := P) (u := ty) (ts := argTypes) hM hr ht' (hoargs x (by simp)) (hoargs y (by simp))
          simpa using this
        · simp at h
      all_goals (simp [evOp] at h)
  all_goals (simp [evOp] at h)
end
end Go.Sy
