/-
  The reader's regions that draw their order, against the machine's: what is made ahead of the rest.
-/
import Derived.Test.YtmkdhgigghgieaaSyDraw
namespace Go.Sy

section
variable {P : Program} {md : FuncId → Md} {E : FnA} {n0 : Nat}

/-- a box that was not there yet, and now lies in a new block -/
theorem MR.fill {G : Gh} {w : World} {β : Beta} {bx : Bx} (hM : MR G w β bx) {b : Nat} {xs : List AV} (hab : β[b]? = some .ab) (hl : bx[b]? = some xs) (E : TypeId) {c : Array Value} (hc : c.size = xs.length)
    (hone : ∀ (i : Nat) (y : Value), c[i]? = some y → y.oneCell' = true) (hv : ∀ (i : Nat) (x : AV) (y : Value), xs[i]? = some x → c[i]? = some y → VR w (im G w β) β x y) :
    MR G (w.alloc (.cells c E)) (β.set b (.at w.heap.size 0)) bx ∧ Ext G (· != b) w β (w.alloc (.cells c E)) (β.set b (.at w.heap.size 0)) ∧
    ∀ {x : AV} {y : Value}, VR w (im G w β) β x y → VR (w.alloc (.cells c E)) (im G (w.alloc (.cells c E)) (β.set b (.at w.heap.size 0))) (β.set b (.at w.heap.size 0)) x y := by
  have hlt : b < bx.length := (List.getElem?_eq_some_iff.mp hl).1
  obtain ⟨m1, e1⟩ := MR.move hM hl E (c := c) (pad := #[]) (xs := xs) hc (by simpa using hone) hv
  simp only [Array.append_empty] at m1 e1
  have hvr : ∀ {x : AV} {y : Value}, VR w (im G w β) β x y → VR (w.alloc (.cells c E)) (im G (w.alloc (.cells c E)) (β.set b (.at w.heap.size 0))) (β.set b (.at w.heap.size 0)) x y := by
    intro x y hx
    refine hx.mono e1.imk (fun i p hp hi => ?_) fun i k o c' E' fz hi hcc => ?_
    · have hne : i ≠ b := by rintro rfl; rw [hab] at hi; simp only [Option.some.injEq] at hi; exact hp hi.symm
      exact e1.bt i p (by simpa using hne) hi
    · have hne : i ≠ b := by rintro rfl; rw [hab] at hi; simp at hi
      obtain ⟨c1, fz1, h1, h2⟩ := e1.shp i k o c' E' fz (by simpa using hne) hi hcc
      exact ⟨c1, E', fz1, h1, h2⟩
  refine ⟨⟨by simpa using m1.len, m1.uniq, ?_, fun i k l hi hli => ?_, fun i e g l hi hli => ?_, m1.frle, m1.leold, m1.sz⟩, e1, hvr⟩
  case refine_2 =>
    have e : i ≠ b := by rintro rfl; rw [List.getElem?_set_self (by rw [hM.len]; exact hlt)] at hi; simp at hi
    rw [List.getElem?_set_ne (Ne.symm e)] at hi
    obtain ⟨es, cl, h1, h2⟩ := hM.maps i k l hi hli
    have hk : k < w.heap.size := (Array.getElem?_eq_some_iff.mp h1).1
    exact ⟨es, cl, by rw [heap_alloc_old (h := hk)]; exact h1, h2.imp fun _ _ h => hvr h⟩
  case refine_3 =>
    have e : i ≠ b := by rintro rfl; rw [List.getElem?_set_self (by rw [hM.len]; exact hlt)] at hi; simp at hi
    rw [List.getElem?_set_ne (Ne.symm e)] at hi
    exact hM.grsk hi hli fun k hk _ => heap_alloc_old (h := hk) ..
  intro i k o l hi hli
  by_cases e : i = b
  · subst e
    rw [hl] at hli
    simp only [Option.some.injEq] at hli
    subst hli
    rw [List.getElem?_set_self (by rw [hM.len]; exact hlt)] at hi
    simp only [Option.some.injEq, Lie.at.injEq] at hi
    obtain ⟨rfl, rfl⟩ := hi
    refine ⟨c, E, (0, 0), heap_alloc_new w _, by omega, .inl rfl, hone, fun j x y hx hy => hvr (hv j x y hx (by simpa using hy))⟩
  · rw [List.getElem?_set_ne (Ne.symm e)] at hi
    obtain ⟨c1, E1, fz1, h1, h2, h3, h4, h5⟩ := hM.born i k o l hi hli
    have hk : k < w.heap.size := (Array.getElem?_eq_some_iff.mp h1).1
    refine ⟨c1, E1, fz1, ?_, h2, h3, h4, fun j x y hx hy => hvr (h5 j x y hx hy)⟩
    rw [heap_alloc_old (h := hk), h1]

/-- boxes that are not there yet -/
theorem MR.absent {G : Gh} {w : World} : ∀ (ext : Bx) {β : Beta} {bx : Bx}, MR G w β bx → MR G w (β ++ List.replicate ext.length .ab) (bx ++ ext) ∧ Ext G allq w β w (β ++ List.replicate ext.length .ab)
  | [], β, bx, hM => by simpa using ⟨hM, Ext.refl G allq w β⟩
  | l :: ext, β, bx, hM => by
    obtain ⟨m1, e1⟩ := hM.newU l (loc := .ab) (fun k h => h)
    obtain ⟨m2, e2⟩ := MR.absent ext m1
    have h1 : β ++ List.replicate (l :: ext).length .ab = β ++ [.ab] ++ List.replicate ext.length .ab := by simp [List.replicate_succ]
    rw [h1, show bx ++ l :: ext = bx ++ [l] ++ ext by simp]
    exact ⟨m2, e1.trans e2⟩

theorem mcl_hoist {op : Op} (h : hoist op = true) : mcl P md op = 3 := by
  cases op <;> first | rfl | (simp [hoist] at h; done)

/-- what is made ahead of the rest, whenever the machine makes it -/
theorem hoist_ok {env env' : Env} {bx0 bx' : Bx} {o : Oper} {r : AV} (hh : hoist o.op = true) (h : evOp P md E n0 env bx0 o.op = some (r, env', bx')) :
    env' = env ∧ ∃ z, bx' = bx0 ++ [z] ∧ ∀ {G : Gh} {w : World} {β : Beta} {B : Bx}, MR G w β B → β[bx0.length]? = some .ab → B[bx0.length]? = some z →
      ∀ (a : Act) (next : Act → World → Prop) (Q : Exit → Act → World → Prop),
        (∀ v w' β', (∀ i, i ≠ bx0.length → β'[i]? = β[i]?) → MR G w' β' B → Ext G (· != bx0.length) w β w' β' → (∀ {x : AV} {y : Value}, VR w (im G w β) β x y → VR w' (im G w' β') β' x y) → VR w' (im G w' β') β' r v → next (a.put o.dst v) w') →
        o.wp P a w next Q := by
  obtain ⟨dst, op, ty, pos, aft, gd⟩ := o
  simp only at h hh
  cases op <;> try (simp [hoist] at hh; done)
  case alloc t =>
    simp only [evOp, Option.map_eq_some_iff, Prod.mk.injEq] at h
    obtain ⟨z, hz, rfl, rfl, rfl⟩ := h
    refine ⟨rfl, z, rfl, ?_⟩
    intro G w β B hM hab hB a next Q hn
    obtain ⟨v, hv, e0, h1⟩ := run_zcA (w := w) hz
    obtain ⟨n1, n2⟩ := cells_new (w := w) (β := β) e0 (im G w β)
    obtain ⟨m1, e1, k1⟩ := MR.fill hM hab hB t n1 h1 n2
    refine wp_value (s := Instr.alloc t true (.tuple #[])) (v := .pointer (some ⟨w.heap.size, 0, none⟩)) rfl ?_ (hn (.pointer (some ⟨w.heap.size, 0, none⟩)) _ _ (fun i hi => List.getElem?_set_ne (Ne.symm hi)) m1 e1 k1 ?_)
    · simp only [Instr.alloc, Sem.run_bind, hv, Result.andThen_ok, newVar, newRow, run_newObj, Sem.run_pure, Array.append_empty]
      rfl
    · exact .bp _ 0 _ 0 (List.getElem?_set_self (List.getElem?_eq_some_iff.mp hab).1)
  case makeSlice t l c =>
    cases l <;> try (simp [hoist] at hh; done)
    cases c <;> try (simp [hoist] at hh; done)
    rename_i vl vc
    simp only [evOp, Option.map_eq_some_iff, Prod.mk.injEq] at h
    obtain ⟨⟨r0, b0⟩, hr, rfl, rfl, rfl⟩ := h
    have hsh : ∃ (k sz : Nat) (z : List AV), b0 = bx0 ++ [z] ∧ r0 = .bsl bx0.length 0 k sz := by
      have hr' := hr
      unfold makeSliceA at hr'
      split at hr'
      · split at hr'
        · simp only [Option.bind_eq_some_iff] at hr'
          obtain ⟨_, _, sz, _, _, _, z, _, hr'⟩ := hr'
          split at hr'
          · simp only [newBox, Option.some.injEq, Prod.mk.injEq] at hr'
            exact ⟨_, _, _, hr'.2.symm, hr'.1.symm⟩
          · simp at hr'
        · simp at hr'
      · simp at hr'
    obtain ⟨k, sz, z, rfl, rfl⟩ := hsh
    refine ⟨rfl, z, rfl, ?_⟩
    intro G w β B hM hab hB a next Q hn
    obtain ⟨k', sz', z', c, E, h1, h2, h3, h4, h5, h6, h7, h8⟩ := makeSlice_run (w := w) (G := G) (β := β) hr (.v vl) (.v vc)
    simp only [List.append_cancel_left_eq, List.cons.injEq, and_true] at h2
    simp only [AV.bsl.injEq, true_and] at h1
    obtain ⟨rfl, rfl⟩ := h1
    subst h2
    obtain ⟨m1, e1, k1⟩ := MR.fill hM hab hB E h5 h7 h8
    refine wp_value (s := Instr.makeSlice t vl vc) rfl h4 (hn _ _ _ (fun i hi => List.getElem?_set_ne (Ne.symm hi)) m1 e1 k1 ?_)
    refine .bsl _ 0 k sz w.heap.size 0 _ k (List.getElem?_set_self (List.getElem?_eq_some_iff.mp hab).1) (Nat.le_refl _) h3 (.inl rfl) ⟨c, E, _, heap_alloc_new w _, by omega⟩

/-! ## the slots along the text -/
def dstOf (ops : Array Oper) (i : Nat) : Option Nat := (ops[i]?).bind (·.dst)
def selOf (sel : Op → Bool) (ops : Array Oper) (i : Nat) : Bool := ((ops[i]?).map fun o => sel o.op).getD false
def hOf (ops : Array Oper) (i : Nat) : Bool := ((ops[i]?).map fun o => hoist o.op).getD false

theorem put_get {N : Nat} {d : Option Nat} {x : AV} {env env' : Env} (h : put N d x env = some env') (t : Nat) : get env' t = if d = some t then x else get env t := by
  cases d with
  | none => simp only [put, Option.some.injEq] at h; subst h; simp
  | some d =>
    simp only [put] at h
    split at h
    · simp only [Option.some.injEq] at h
      subst h
      simp [get]
    · simp at h

theorem step_get {N : Nat} {sel : Op → Bool} {ops : Array Oper} {o : Oper} {e e' : Env} {b b' : Bx} {r : AV} (h : StepR P md E N n0 sel ops o e b r e' b')
    (hen : ∀ en1, sel o.op = true → evOp P md E n0 e b o.op = some (r, en1, b') → en1 = e) (t : Nat) : get e' t = if sel o.op = true ∧ o.dst = some t then r else get e t := by
  unfold StepR at h
  split at h
  · rename_i hs
    simp only [hs, true_and]
    rcases h with ⟨_, en1, h1, h2⟩ | ⟨_, rfl, h2, _⟩
    · rw [hen en1 hs h1] at h2
      exact put_get h2 t
    · exact put_get h2 t
  · rename_i hs
    simp [hs, h.1]

theorem trace_get {N : Nat} {sel : Op → Bool} {ops : Array Oper} {e : Nat → Env} {b : Nat → Bx} {r : Nat → AV}
    (hs : ∀ (i : Nat) (o : Oper), ops[i]? = some o → StepR P md E N n0 sel ops o (e i) (b i) (r i) (e (i + 1)) (b (i + 1)))
    (hen : ∀ (i : Nat) (o : Oper) (en1 : Env), ops[i]? = some o → sel o.op = true → evOp P md E n0 (e i) (b i) o.op = some (r i, en1, b (i + 1)) → en1 = e i) (t : Nat) :
    ∀ j, j ≤ ops.size → get (e j) t = lastF (fun k => selOf sel ops k && (dstOf ops k == some t)) r (get (e 0) t) j
  | 0, _ => rfl
  | j + 1, hj => by
    have ho : ops[j]? = some ops[j] := Array.getElem?_eq_getElem (by omega)
    rw [step_get (hs j _ ho) (fun en1 => hen j _ en1 ho) t, trace_get hs hen t j (by omega)]
    simp only [lastF, ho, dstOf, selOf, Option.bind_some, Option.map_some, Option.getD_some, Bool.and_eq_true, beq_iff_eq]

/-! ## what 'append' takes from the slots -/
/-- which boxes are kept behind the last one that counts -/
def hit (p : Nat → Bool) (c : Nat → Option Nat) : Nat → Nat → Bool
  | 0, _ => true
  | n + 1, b => if p n then true else hit p c n b && keepO (c n) b

theorem keepO_iff {c : Option Nat} {b : Nat} : keepO c b = true ↔ c ≠ some b := by
  cases c with
  | none => simp [keepO]
  | some d => simp only [keepO, bne_iff_ne, ne_eq, Option.some.injEq]; exact ⟨fun h e => h e.symm, fun h e => h e.symm⟩

theorem hit_spec {p : Nat → Bool} {c : Nat → Option Nat} {b : Nat} : ∀ {n : Nat}, hit p c n b = true ↔ ∀ k, k < n → c k = some b → ∃ k', k ≤ k' ∧ k' < n ∧ p k' = true
  | 0 => by simp [hit]
  | n + 1 => by
    simp only [hit]
    split
    · rename_i hp
      exact ⟨fun _ k hk _ => ⟨n, by omega, by omega, hp⟩, fun _ => rfl⟩
    · rename_i hp
      rw [Bool.and_eq_true, hit_spec, keepO_iff]
      constructor
      · rintro ⟨h1, h2⟩ k hk hc
        rcases Nat.lt_or_ge k n with h | h
        · obtain ⟨k', g1, g2, g3⟩ := h1 k h hc
          exact ⟨k', g1, by omega, g3⟩
        · obtain rfl : k = n := by omega
          exact absurd hc h2
      · intro h
        constructor
        · intro k hk hc
          obtain ⟨k', g1, g2, g3⟩ := h k (by omega) hc
          rcases Nat.lt_or_ge k' n with h' | h'
          · exact ⟨k', g1, h', g3⟩
          · obtain rfl : k' = n := by omega
            exact absurd g3 hp
        · intro hc
          obtain ⟨k', g1, g2, g3⟩ := h n (by omega) hc
          obtain rfl : k' = n := by omega
          exact absurd g3 hp

theorem hit_none {p : Nat → Bool} {c : Nat → Option Nat} {n : Nat} (h : ∀ k, k < n → c k = none) : hit p c n = fun _ => true := by
  funext b
  rw [hit_spec]
  intro k hk hc
  rw [h k hk] at hc
  simp at hc

theorem lastF_hit {p : Nat → Bool} {rs : Nat → AV} {x0 : AV} {k : Nat} : ∀ {n : Nat}, k < n → p k = true → ∃ k', k ≤ k' ∧ k' < n ∧ p k' = true ∧ lastF p rs x0 n = rs k'
  | 0, h, _ => by omega
  | n + 1, h, hp => by
    simp only [lastF]
    split
    · rename_i h'
      exact ⟨n, by omega, by omega, h', rfl⟩
    · rename_i h'
      have : k ≠ n := by rintro rfl; exact h' hp
      obtain ⟨k', g1, g2, g3, g4⟩ := lastF_hit (p := p) (rs := rs) (x0 := x0) (k := k) (n := n) (by omega) hp
      exact ⟨k', g1, by omega, g3, g4⟩

theorem trace_getc {N : Nat} {sel : Op → Bool} {ops : Array Oper} {e : Nat → Env} {b : Nat → Bx} {r : Nat → AV} {c : Nat → Option Nat}
    (hs : ∀ (i : Nat) (o : Oper), ops[i]? = some o → StepR P md E N n0 sel ops o (e i) (b i) (r i) (e (i + 1)) (b (i + 1)))
    (hen : ∀ (i : Nat) (o : Oper) (en1 : Env), ops[i]? = some o → sel o.op = true → wantA ops (e i) o = some true → evOp P md E n0 (e i) (b i) o.op = some (r i, en1, b (i + 1)) → ∀ t, get en1 t = (get (e i) t).keep (keepO (c i)))
    (hno : ∀ (i : Nat) (o : Oper), ops[i]? = some o → (sel o.op = false ∨ wantA ops (e i) o = some false) → c i = none) (t : Nat) :
    ∀ j, j ≤ ops.size → get (e j) t = (lastF (fun k => selOf sel ops k && (dstOf ops k == some t)) r (get (e 0) t) j).keep (hit (fun k => selOf sel ops k && (dstOf ops k == some t)) c j)
  | 0, _ => (keep_all _).symm
  | j + 1, hj => by
    have ho : ops[j]? = some ops[j] := Array.getElem?_eq_getElem (by omega)
    have ih := trace_getc hs hen hno t j (by omega)
    have hst := hs j _ ho
    have step : get (e (j + 1)) t = if sel ops[j].op = true ∧ ops[j].dst = some t then r j else (get (e j) t).keep (keepO (c j)) := by
      have hk : c j = none → (get (e j) t).keep (keepO (c j)) = get (e j) t := by
        intro h
        rw [h]
        exact keep_all _
      unfold StepR at hst
      split at hst
      · rename_i hsel
        simp only [hsel, true_and]
        rcases hst with ⟨hw, en1, h1, h2⟩ | ⟨hw, hr, h2, _⟩
        · rw [put_get h2 t, hen j _ en1 ho hsel hw h1 t]
        · rw [put_get h2 t, hk (hno j _ ho (.inr hw)), hr]
      · rename_i hsel
        rw [hst.1, if_neg (fun h => hsel h.1), hk (hno j _ ho (.inl (by simpa using hsel)))]
    have hp : (selOf sel ops j && (dstOf ops j == some t)) = true ↔ (sel ops[j].op = true ∧ ops[j].dst = some t) := by
      simp only [selOf, dstOf, ho, Option.bind_some, Option.map_some, Option.getD_some, Bool.and_eq_true, beq_iff_eq]
    rw [step]
    simp only [lastF]
    by_cases h : sel ops[j].op = true ∧ ops[j].dst = some t
    · rw [if_pos h, if_pos (hp.2 h)]
      rw [show hit (fun k => selOf sel ops k && (dstOf ops k == some t)) c (j + 1) = fun _ => true by funext b; simp only [hit]; rw [if_pos (hp.2 h)]]
      exact (keep_all _).symm
    · have hp' : ¬ ((selOf sel ops j && (dstOf ops j == some t)) = true) := fun h' => h (hp.1 h')
      rw [if_neg h, if_neg hp', ih, keep_keep]
      rw [show hit (fun k => selOf sel ops k && (dstOf ops k == some t)) c (j + 1) = fun b => hit (fun k => selOf sel ops k && (dstOf ops k == some t)) c j b && keepO (c j) b by funext b; simp only [hit]; rw [if_neg hp']]
end
end Go.Sy
