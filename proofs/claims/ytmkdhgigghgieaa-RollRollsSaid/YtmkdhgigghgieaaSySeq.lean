/-
  The reader's regions in the order of the text, against the machine's.
-/
import Derived.Test.YtmkdhgigghgieaaSyRun
namespace Go.Sy

section
variable {P : Program} {G : Gh} {w : World} {β : Beta} {bx : Bx} {ds : List Deferred}

theorem evOp_wp (hM : MR G w β bx) {E : FnA} (hE : ∀ f args bx r bx', E f args bx = some (r, bx') → Sound P f args bx r bx')
    {md : FuncId → Md} {n0 : Nat} {env env' : Env} {bx' : Bx} {r : AV} {o : Oper} {a : Act} (h : evOp P md E n0 env bx o.op = some (r, env', bx'))
    (ho : ∀ x ∈ o.op.operands, VR w (im G w β) β (opnd env x) (a.eval x)) :
    ∀ (next : Act → World → Prop) (Q : Exit → Act → World → Prop),
      (∀ v w' β', Ext G (fun b => decide (b < n0)) w β w' β' → MR G w' β' bx' → VR w' (im G w' β') β' r v → (∀ (t : Nat) (y : Value), VR w (im G w β) β (get env t) y → VR w' (im G w' β') β' (get env' t) y) → next (a.put o.dst v) w') →
      o.wp P a w next Q := by
  intro next Q hn
  by_cases hna : noApp o.op = true
  · obtain ⟨rfl, hw⟩ := evOp_str hM hE h ho hna
    exact hw next Q fun v w' β' ⟨g1, g2, g3⟩ => hn v w' β' (g1.weaken fun _ _ => rfl) g2 g3 fun t y hy => g1.vr hy
  · obtain ⟨dst, op, ty, pos, aft, gd⟩ := o
    cases op <;> try (exact absurd rfl hna)
    rename_i c
    obtain ⟨callee, args, argTypes⟩ := c
    cases callee <;> try (exact absurd rfl hna)
    rename_i b
    cases b <;> try (exact absurd rfl hna)
    have hoargs : ∀ x ∈ args.toList, VR w (im G w β) β (opnd env x) (a.eval x) := fun x hx => ho x (by simp only [Op.operands, Call.operands, Array.mem_append]; exact .inr (by simpa using hx))
    simp only [evOp] at h
    split at h
    · rename_i x y t u hx ht
      split at h
      · rename_i hc
        have hx' : args = #[x, y] := by rw [← Array.toList_inj, hx]
        have ht0 : argTypes[0]? = some t := by rw [← Array.getElem?_toList, ht]; rfl
        have ht1 : argTypes[1]? = some u := by rw [← Array.getElem?_toList, ht]; rfl
        subst hx'
        have hnum : P.underlying u = some .string ∨ ∃ e', P.underlying u = some (.slice e') := by
          simp only [Bool.or_eq_true] at hc
          rcases hc with hc | hc
          · obtain ⟨e, h1, _⟩ := isSl_spec hc; exact .inr ⟨e, h1⟩
          · exact .inl (isStr_spec hc)
        obtain ⟨v, w', β', g1, g2, g3, g4, g5, g6⟩ := appendA_ok (P := P) (ty := ty) (ts := argTypes) hM h ht0 ht1 hnum (hoargs x (by simp)) (hoargs y (by simp))
        exact wp_value (s := Builtin.append_ argTypes ty (#[x, y].map a.eval)) rfl (by simpa using g1) (hn v w' β' g2 g3 g4 fun t y hy => by rw [g5]; exact g6 _ _ hy)
      · simp at h
    · simp at h

/-- 'append', in whatever order -/
theorem evOp_app (hM : MR G w β bx) {E : FnA}
    {md : FuncId → Md} {n0 : Nat} {env env' : Env} {bx' : Bx} {r : AV} {o : Oper} {a : Act} (h : evOp P md E n0 env bx o.op = some (r, env', bx'))
    (ho : ∀ x ∈ o.op.operands, VR w (im G w β) β (opnd env x) (a.eval x)) (hna : noApp o.op = false) :
    ∃ x, apO env o.op = some x ∧ ∀ (next : Act → World → Prop) (Q : Exit → Act → World → Prop),
      (∀ v w' β', Ext G (fun b => decide (b < n0)) w β w' β' → MR G w' β' bx' → VR w' (im G w' β') β' r v → (∀ (x' : AV) (y : Value), VR w (im G w β) β x' y → VR w' (im G w' β') β' (x'.keep (keepO (apB x))) y) → next (a.put o.dst v) w') →
      o.wp P a w next Q := by
  obtain ⟨dst, op, ty, pos, aft, gd⟩ := o
  cases op <;> try (simp [noApp] at hna; done)
  rename_i c
  obtain ⟨callee, args, argTypes⟩ := c
  cases callee <;> try (simp [noApp] at hna; done)
  rename_i b
  cases b <;> try (simp [noApp] at hna; done)
  have hoargs : ∀ x ∈ args.toList, VR w (im G w β) β (opnd env x) (a.eval x) := fun x hx => ho x (by simp only [Op.operands, Call.operands, Array.mem_append]; exact .inr (by simpa using hx))
  simp only [evOp] at h
  split at h
  · rename_i x y t u hx ht
    split at h
    · rename_i hc
      have hx' : args = #[x, y] := by rw [← Array.toList_inj, hx]
      have ht0 : argTypes[0]? = some t := by rw [← Array.getElem?_toList, ht]; rfl
      have ht1 : argTypes[1]? = some u := by rw [← Array.getElem?_toList, ht]; rfl
      subst hx'
      have hnum : P.underlying u = some .string ∨ ∃ e', P.underlying u = some (.slice e') := by
        simp only [Bool.or_eq_true] at hc
        rcases hc with hc | hc
        · obtain ⟨e, h1, _⟩ := isSl_spec hc; exact .inr ⟨e, h1⟩
        · exact .inl (isStr_spec hc)
      obtain ⟨v, w', β', g1, g2, g3, g4, g5, g6⟩ := appendA_ok (P := P) (ty := ty) (ts := argTypes) hM h ht0 ht1 hnum (hoargs x (by simp)) (hoargs y (by simp))
      refine ⟨opnd env x, rfl, fun next Q hn => ?_⟩
      exact wp_value (s := Builtin.append_ argTypes ty (#[x, y].map a.eval)) rfl (by simpa using g1) (hn v w' β' g2 g3 g4 g6)
    · simp at h
  · simp at h

theorem box_new {b : Bx} {z : List AV} {c : Nat} (hne : b.length ≠ c) : (b ++ [z])[c]? = b[c]? := by
  rcases Nat.lt_or_ge c b.length with h | h
  · rw [List.getElem?_append_left h]
  · rw [List.getElem?_eq_none (by simp; omega), List.getElem?_eq_none (by omega)]
theorem rd_v {P : Program} {t : Rd} (b b' : Bx) (x : Value) : rdA P b t (.v x) = rdA P b' t (.v x) := by
  cases t with
  | ld t => rfl
  | lk t i ok =>
    cases i <;> (try rfl)
    rename_i v
    cases v <;> (try rfl)
    simp only [rdA, lookA]
    cases mpT P t <;> (try rfl)
    simp only [Option.bind_some]
    split
    · cases x <;> (try rfl)
      rename_i r
      cases r <;> rfl
    · rfl
theorem rd_new {P : Program} {t : Rd} {b : Bx} {z : List AV} {y : AV} (hap : apartV (.bp b.length 0) y = true) : rdA P (b ++ [z]) t y = rdA P b t y := by
  cases y with
  | bp c' off' =>
    have hne : b.length ≠ c' := by simpa [apartV] using hap
    cases t with
    | ld t => simp only [rdA, loadA, box_new hne]
    | lk t i ok => rfl
  | mp c' =>
    have hne : b.length ≠ c' := by simpa [apartV] using hap
    cases t with
    | ld t => rfl
    | lk t i ok => simp only [rdA, lookA, box_new hne]
  | gp c' o m =>
    have hne : b.length ≠ c' := by simpa [apartV] using hap
    cases t with
    | ld t => simp only [rdA, loadA, box_new hne]
    | lk t i ok => rfl
  | ip l' _ => cases t <;> rfl
  | v _ => exact rd_v _ _ _
  | _ => simp [apartV] at hap
theorem findL_keep (q : Nat → Bool) (k : IntKind) (n : Int) : ∀ l : List AV, findL k n (l.map (AV.keep q)) = (findL k n l).map (Option.map (AV.keep q))
  | [] => rfl
  | x :: l => by
    have ih := findL_keep q k n l
    rw [List.map_cons]
    cases x <;> simp only [AV.keep, findL, Option.map_none]
    case tup r =>
      match r with
      | [] => rfl
      | [a] => cases a <;> simp [AV.keepL, AV.keep, findL] <;> (try split) <;> rfl
      | [a, y] =>
        cases a <;> simp only [AV.keepL, AV.keep, findL, Option.map_none] <;> try (split <;> rfl)
        rename_i v
        cases v <;> simp only [findL, Option.map_none]
        split
        · split
          · rfl
          · exact ih
        · rfl
      | a :: y :: z :: r => cases a <;> simp [AV.keepL, AV.keep, findL] <;> (try split) <;> rfl
    all_goals (try split) <;> rfl
theorem zvA_keep {P : Program} {t : TypeId} {z : AV} (h : zvA P t = some z) (q : Nat → Bool) : z.keep q = z := by
  unfold zvA at h
  rw [Option.bind_eq_some_iff] at h
  obtain ⟨v, _, h⟩ := h
  split at h
  · split at h
    · simp only [Option.some.injEq] at h
      subst h
      simp only [AV.keep, AV.keepL_eq, List.map_map]
      rfl
    · simp at h
  · simp only [Option.some.injEq] at h
    subst h
    rfl
theorem okM_keep (ok b : Bool) (x : AV) (q : Nat → Bool) : (okM ok x b).keep q = okM ok (x.keep q) b := by
  cases ok <;> rfl
theorem rd_keep {P : Program} {bx bx' : Bx} {t : Rd} {y : AV} {q : Nat → Bool} (hb : ∀ c l, (∃ o, y = .bp c o) ∨ y = .mp c ∨ (∃ o m, y = .gp c o m) → bx[c]? = some l → bx'[c]? = some (l.map (AV.keep q)))
    (hn : ∀ c, (∃ o, y = .bp c o) ∨ y = .mp c ∨ (∃ o m, y = .gp c o m) → bx[c]? = none → bx'[c]? = none) (hy : (∃ c o, y = .bp c o) ∨ (∃ c, y = .mp c) ∨ ∃ c o m, y = .gp c o m) : rdA P bx' t y = (rdA P bx t y).map (AV.keep q) := by
  rcases hy with ⟨c, o, rfl⟩ | ⟨c, rfl⟩ | ⟨c, o, m, rfl⟩
  · cases t with
    | lk t i ok => cases i <;> (try rfl); rename_i v; cases v <;> (try rfl); simp only [rdA, lookA]; cases mpT P t <;> (try rfl); simp only [Option.bind_some]; split <;> rfl
    | ld t =>
      simp only [rdA, loadA]
      cases h : bx[c]? with
      | none => rw [hn c (.inl ⟨o, rfl⟩) h]; rfl
      | some l' =>
        rw [hb c l' (.inl ⟨o, rfl⟩) h]
        simp only [Option.bind_some, partA]
        split
        · simp only [List.length_map]
          split
          · simp only [Option.map_some, AV.keep, AV.keepL_eq, List.map_drop, List.map_take]
          · rfl
        · rw [List.getElem?_map]
        · rfl
  · cases t with
    | ld t => rfl
    | lk t i ok =>
      cases i <;> (try rfl)
      rename_i v
      cases v <;> (try rfl)
      simp only [rdA, lookA]
      cases mpT P t <;> (try rfl)
      simp only [Option.bind_some]
      split
      · cases h : bx[c]? with
        | none => rw [hn c (.inr (.inl rfl)) h]; rfl
        | some l' =>
          rw [hb c l' (.inr (.inl rfl)) h]
          simp only [Option.bind_some, ← List.map_tail, findL_keep]
          cases findL _ _ l'.tail with
          | none => rfl
          | some r =>
            cases r with
            | some x => simp only [Option.map_some, Option.bind_some, okM_keep]
            | none =>
              simp only [Option.map_some, Option.map_none, Option.bind_some]
              cases hz : zvA P _ with
              | none => rfl
              | some z => simp only [Option.map_some, okM_keep, zvA_keep hz]
      · rfl
  · cases t with
    | lk t i ok => cases i <;> (try rfl); rename_i v; cases v <;> (try rfl); simp only [rdA, lookA]; cases mpT P t <;> (try rfl); simp only [Option.bind_some]; split <;> rfl
    | ld t =>
      simp only [rdA, loadA]
      cases h : bx[c]? with
      | none => rw [hn c (.inr (.inr ⟨o, m, rfl⟩)) h]; rfl
      | some l' =>
        rw [hb c l' (.inr (.inr ⟨o, m, rfl⟩)) h]
        simp only [Option.bind_some, partA, ← List.map_drop, ← List.map_take]
        split
        · simp only [List.length_map]
          split
          · simp only [Option.map_some, AV.keep, AV.keepL_eq, List.map_drop, List.map_take]
          · rfl
        · rw [List.getElem?_map]
        · rfl

/-- 'append': what becomes of the slots, and of what lies in other boxes -/
theorem ap_spec {E : FnA} {md : FuncId → Md} {n0 : Nat} {env env' : Env} {bx bx' : Bx} {r : AV} {op : Op} (h : evOp P md E n0 env bx op = some (r, env', bx')) (hna : noApp op = false) :
    ∃ x, apO env op = some x ∧ adr md env bx op = some (true, apAd bx x) ∧ (∀ t, get env' t = (get env t).keep (keepO (apB x))) ∧
      ∀ (t : Rd) (y : AV), apartV (apAd bx x) y = true → ∃ q : Nat → Bool, (∀ b, q b = false → apB x = some b) ∧ rdA P bx' t y = (rdA P bx t y).map (AV.keep q) := by
  cases op <;> try (simp [noApp] at hna; done)
  rename_i c
  obtain ⟨callee, args, argTypes⟩ := c
  cases callee <;> try (simp [noApp] at hna; done)
  rename_i b
  cases b <;> try (simp [noApp] at hna; done)
  have same : ∀ (o : Option AV), o = o.map (AV.keep fun _ => true) := by
    intro o
    cases o with
    | none => rfl
    | some z => rw [Option.map_some, keep_all]
  have new : ∀ (t : Rd) (z : List AV) (y : AV), apartV (.bp bx.length 0) y = true → rdA P (bx ++ [z]) t y = rdA P bx t y := fun t z y hap => rd_new hap
  simp only [evOp] at h
  split at h
  · rename_i x y t u hx ht
    split at h
    · refine ⟨opnd env x, by simp only [apO, hx], by simp only [adr, hx], ?_⟩
      generalize opnd env x = vx at h
      unfold appendA at h
      split at h
      · simp only [Option.bind_eq_some_iff] at h
        obtain ⟨e, _, sz, _, by_, _, z, _, ⟨m, ys⟩, _, h⟩ := h
        simp only at h
        split at h
        · split at h
          · split at h
            · simp only [Option.some.injEq, Prod.mk.injEq] at h
              obtain ⟨rfl, rfl, rfl⟩ := h
              exact ⟨fun t => (keep_all _).symm, fun t y _ => ⟨fun _ => true, by simp, same _⟩⟩
            · split at h
              · simp only [Option.some.injEq, Prod.mk.injEq] at h
                obtain ⟨rfl, rfl, rfl⟩ := h
                exact ⟨fun t => (keep_all _).symm, fun t y hy => ⟨fun _ => true, by simp, by rw [new t ys y hy]; exact same _⟩⟩
              · simp only [Option.some.injEq, Prod.mk.injEq] at h
                obtain ⟨rfl, rfl, rfl⟩ := h
                exact ⟨fun t => (keep_all _).symm, fun t y hy => ⟨fun _ => true, by simp, by rw [new t ys y hy]; exact same _⟩⟩
          · split at h
            · simp only [Option.some.injEq, Prod.mk.injEq] at h
              obtain ⟨rfl, rfl, rfl⟩ := h
              exact ⟨fun t => (keep_all _).symm, fun t y _ => ⟨fun _ => true, by simp, same _⟩⟩
            · split at h
              · simp only [Option.some.injEq, Prod.mk.injEq] at h
                obtain ⟨rfl, rfl, rfl⟩ := h
                exact ⟨fun t => (keep_all _).symm, fun t y hy => ⟨fun _ => true, by simp, by rw [new t ys y hy]; exact same _⟩⟩
              · simp only [Option.some.injEq, Prod.mk.injEq] at h
                obtain ⟨rfl, rfl, rfl⟩ := h
                exact ⟨fun t => (keep_all _).symm, fun t y hy => ⟨fun _ => true, by simp, by rw [new t ys y hy]; exact same _⟩⟩
          · rename_i b n e'
            rw [Option.bind_eq_some_iff] at h
            obtain ⟨l, hl, h⟩ := h
            split at h
            · simp only [Option.some.injEq, Prod.mk.injEq] at h
              obtain ⟨rfl, rfl, rfl⟩ := h
              refine ⟨fun t => (keep_all _).symm, fun t y hy => ⟨fun _ => true, by simp, ?_⟩⟩
              rw [← same]
              cases y with
              | bp c' off' =>
                have hne : b ≠ c' := by simpa [apartV, apAd] using hy
                cases t with
                | ld t => simp only [rdA, loadA, List.getElem?_set_ne hne]
                | lk t i ok => rfl
              | mp c' =>
                have hne : b ≠ c' := by simpa [apartV, apAd] using hy
                cases t with
                | ld t => rfl
                | lk t i ok => simp only [rdA, lookA, List.getElem?_set_ne hne]
              | gp c' o m =>
                have hne : b ≠ c' := by simpa [apartV, apAd] using hy
                cases t with
                | ld t => simp only [rdA, loadA, List.getElem?_set_ne hne]
                | lk t i ok => rfl
              | ip l' f => cases t <;> rfl
              | v _ => exact rd_v _ _ _
              | _ => simp [apartV, apAd] at hy
            · simp at h
          · rename_i b off n e'
            rw [Option.bind_eq_some_iff] at h
            obtain ⟨l, hl, h⟩ := h
            split at h
            · simp only [Option.some.injEq, Prod.mk.injEq] at h
              obtain ⟨rfl, rfl, rfl⟩ := h
              refine ⟨fun t => get_keep env _ t, fun t y hy => ?_⟩
              cases y with
              | bp c' off' =>
                have hne : b ≠ c' := by simpa [apartV, apAd] using hy
                refine ⟨(· != b), fun c hc => by simp at hc; simp [apB, hc], rd_keep (fun c l hc hl' => ?_) (fun c hc hl' => ?_) (.inl ⟨c', off', rfl⟩)⟩
                · obtain ⟨o, hc⟩ | hc | ⟨o, m, hc⟩ := hc <;> cases hc
                  rw [List.getElem?_set_ne hne, List.getElem?_map, hl']
                  rfl
                · obtain ⟨o, hc⟩ | hc | ⟨o, m, hc⟩ := hc <;> cases hc
                  rw [List.getElem?_set_ne hne, List.getElem?_map, hl']
                  rfl
              | mp c' =>
                have hne : b ≠ c' := by simpa [apartV, apAd] using hy
                refine ⟨(· != b), fun c hc => by simp at hc; simp [apB, hc], rd_keep (fun c l hc hl' => ?_) (fun c hc hl' => ?_) (.inr (.inl ⟨c', rfl⟩))⟩
                · obtain ⟨o, hc⟩ | hc | ⟨o, m, hc⟩ := hc <;> cases hc
                  rw [List.getElem?_set_ne hne, List.getElem?_map, hl']
                  rfl
                · obtain ⟨o, hc⟩ | hc | ⟨o, m, hc⟩ := hc <;> cases hc
                  rw [List.getElem?_set_ne hne, List.getElem?_map, hl']
                  rfl
              | gp c' o m =>
                have hne : b ≠ c' := by simpa [apartV, apAd] using hy
                refine ⟨(· != b), fun c hc => by simp at hc; simp [apB, hc], rd_keep (fun c l hc hl' => ?_) (fun c hc hl' => ?_) (.inr (.inr ⟨c', o, m, rfl⟩))⟩
                · obtain ⟨o, hc⟩ | hc | ⟨o, m, hc⟩ := hc <;> cases hc
                  rw [List.getElem?_set_ne hne, List.getElem?_map, hl']
                  rfl
                · obtain ⟨o, hc⟩ | hc | ⟨o, m, hc⟩ := hc <;> cases hc
                  rw [List.getElem?_set_ne hne, List.getElem?_map, hl']
                  rfl
              | ip l' f => exact ⟨fun _ => true, by simp, by cases t <;> exact same _⟩
              | v _ => exact ⟨fun _ => true, by simp, by rw [rd_v _ bx]; exact same _⟩
              | _ => simp [apartV, apAd] at hy
            · simp at h
          · simp at h
        · simp at h
      · simp at h
    · simp at h
  · simp at h

/-- The slots, and what is told of them. -/
structure ER (ds : List Deferred) (G : Gh) (w : World) (β : Beta) (N : Nat) (env : Env) (a : Act) : Prop where
  sz : a.tmps.size = N
  df : a.defers = ds
  vr : ∀ t : Nat, VR w (im G w β) β (get env t) (a.tmps.getD t undef)

theorem ER.opnd {N : Nat} {env : Env} {a : Act} (h : ER ds G w β N env a) (x : Operand) : VR w (im G w β) β (Sy.opnd env x) (a.eval x) := by
  cases x with
  | tmp t => exact h.vr t
  | const v => exact .v v
  | global g => exact .junk _
  | func f => exact .fn f [] [] #[] #[] rfl rfl (fun i x y hx => by simp at hx) (fun i x y hx => by simp at hx)

theorem ER.put {N : Nat} {env env' : Env} {a : Act} (h : ER ds G w β N env a) {d : Option Nat} {x : AV} {v : Value} (hp : Sy.put N d x env = some env') (hv : VR w (im G w β) β x v) : ER ds G w β N env' (a.put d v) := by
  cases d with
  | none =>
    simp only [Sy.put, Option.some.injEq] at hp
    subst hp
    exact h
  | some d =>
    simp only [Sy.put] at hp
    split at hp
    · rename_i hlt
      simp only [Option.some.injEq] at hp
      subst hp
      refine ⟨by simpa [Act.put] using h.sz, h.df, fun t => ?_⟩
      simp only [get, Act.put]
      split
      · rename_i e
        subst e
        rw [Array.getD_eq_getD_getElem?, Array.getElem?_setIfInBounds_self_of_lt (by rw [h.sz]; exact hlt)]
        exact hv
      · rename_i e
        have := h.vr t
        rw [Array.getD_eq_getD_getElem?, Array.getElem?_setIfInBounds_ne e, ← Array.getD_eq_getD_getElem?]
        exact this
    · simp at hp

theorem ER.move {N : Nat} {env env' : Env} {a : Act} (h : ER ds G w β N env a) {w' : World} {β' : Beta} (hv : ∀ (t : Nat) (y : Value), VR w (im G w β) β (get env t) y → VR w' (im G w' β') β' (get env' t) y) : ER ds G w' β' N env' a :=
  ⟨h.sz, h.df, fun t => hv t _ (h.vr t)⟩

theorem want_ok {ops : Array Oper} {env : Env} {a : Act} {o : Oper} {b : Bool} (h : wantA ops env o = some b) (hv : ∀ g want d, o.guard = some (g, want) → (ops[g]?).bind (·.dst) = some d → VR w (im G w β) β (get env d) (a.tmps.getD d undef)) :
    Region.wanted o (yielded ops a.tmps) = b := by
  unfold wantA at h
  unfold Region.wanted
  split at h
  · rename_i hg
    simp only [Option.some.injEq] at h
    simp [hg, h]
  · rename_i j want hg
    simp only [hg]
    split at h
    · rename_i hd
      simp only [Option.some.injEq] at h
      subst h
      simp [yielded, hd]
    · rename_i d hd
      have hvd := hv j want d hg hd
      split at h
      · rename_i t ht
        simp only [Option.some.injEq] at h
        subst h
        rw [ht] at hvd
        generalize hy : a.tmps.getD d undef = y at hvd
        cases hvd
        have : a.tmps[d]? = some (.bool t) := by
          rw [Array.getD_eq_getD_getElem?] at hy
          cases hq : a.tmps[d]? with
          | none => rw [hq] at hy; simp [undef] at hy
          | some z => rw [hq] at hy; simpa using hy
        simp [yielded, hd, this]
      · rename_i vs ht
        simp only [Option.some.injEq] at h
        subst h
        rw [ht] at hvd
        generalize hy : a.tmps.getD d undef = y at hvd
        cases hvd
        have : a.tmps[d]? = none ∨ a.tmps[d]? = some (.tuple vs) := by
          rw [Array.getD_eq_getD_getElem?] at hy
          cases hq : a.tmps[d]? with
          | none => exact .inl rfl
          | some z => rw [hq] at hy; right; simpa using hy
        rcases this with this | this <;> simp [yielded, hd, this]
      · simp at h

theorem evOps_wp {E : FnA} (hE : ∀ f args bx r bx', E f args bx = some (r, bx') → Sound P f args bx r bx') {md : FuncId → Md} {N n0 : Nat} {ops : Array Oper} {Q : Exit → Act → World → Prop} :
    ∀ (l : List Oper) {w : World} {β : Beta} {bx : Bx} {env env' : Env} {bx' : Bx} {a : Act}, evOps P md E N n0 (fun _ => true) ops l env bx = some (env', bx') → MR G w β bx → ER ds G w β N env a →
      (∀ a' w' β', Ext G (fun b => decide (b < n0)) w β w' β' → MR G w' β' bx' → ER ds G w' β' N env' a' → Q .normal a' w') → wpList P ops Q l a w
  | [], w, β, bx, env, env', bx', a, h, hM, hR, hQ => by
    simp only [evOps, Option.some.injEq, Prod.mk.injEq] at h
    obtain ⟨rfl, rfl⟩ := h
    exact hQ a w β (.refl _ _ _ _) hM hR
  | o :: l, w, β, bx, env, env', bx', a, h, hM, hR, hQ => by
    simp only [evOps, if_true] at h
    unfold wpList
    split at h
    · rename_i hw
      rw [want_ok hw (fun _ _ d _ _ => hR.vr d)]
      simp only [if_true]
      simp only [Option.bind_eq_some_iff] at h
      obtain ⟨⟨r, env1, bx1⟩, h1, env2, h2, h3⟩ := h
      refine .inl (evOp_wp hM hE h1 (fun x _ => hR.opnd x) _ _ fun v w' β' g1 g2 g3 g4 => ?_)
      exact evOps_wp hE l h3 g2 ((hR.move g4).put h2 g3) fun a' w'' β'' k1 k2 k3 => hQ a' w'' β'' (g1.trans k1) k2 k3
    · rename_i hw
      rw [want_ok hw (fun _ _ d _ _ => hR.vr d)]
      simp only [Bool.false_eq_true, if_false]
      simp only [Option.bind_eq_some_iff] at h
      obtain ⟨env2, h2, h3⟩ := h
      exact evOps_wp hE l h3 hM (hR.put h2 (.v undef)) hQ
    · simp at h
end
end Go.Sy
