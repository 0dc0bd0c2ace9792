/-
  The reader's regions that draw their order, against the machine's.
-/
import Derived.Test.YtmkdhgigghgieaaSyTwo
namespace Go.Sy

section
variable {ds : List Deferred} {P : Program} {md : FuncId → Md} {E : FnA} {N n0 : Nat} {ops : Array Oper} {env env' : Env} {bx bx' : Bx} {e2 : Nat → Env} {b1 b2 : Nat → Bx} {rs : Nat → AV}

/-- what is known when some of a region's operations are done -/
structure Inv (ds : List Deferred) (P : Program) (md : FuncId → Md) (N : Nat) (ops : Array Oper) (env : Env) (m : Nat) (e2 : Nat → Env) (b1 b2 : Nat → Bx) (rs : Nat → AV) (G : Gh) (w0 : World) (β0 : Beta) (L : Array Bool) (a : Act) (w : World) (β : Beta) (f : Nat) : Prop where
  size : L.size = ops.size
  closed : ∀ (k : Nat) (o : Oper), ops[k]? = some o → L.getD k false = true → ∀ e ∈ o.after, Region.binds .any e = true → L.getD e.on false = true
  fle : f ≤ ops.size
  cls : ∀ (i : Nat) (o : Oper), ops[i]? = some o → mcl P md o.op = 2 → (L.getD i false = true ↔ i < f)
  mr : MR G w β (b2 f)
  tsz : a.tmps.size = N
  tdf : a.defers = ds
  slots : ∀ t, VR w (im G w β) β (valL ops e2 rs env (fun k => L.getD k false) t) (a.tmps.getD t undef)
  ab : ∀ (i : Nat) (o : Oper), ops[i]? = some o → hoist o.op = true → L.getD i false = false → β[(b1 i).length]? = some .ab
  ext : Ext G (fun b => decide (b < m)) w0 β0 w β

/-- a slot that an operation does not write, when it is done -/
theorem val_step {L : Array Bool} {i t : Nat} (hsz : L.size = ops.size) (hi : i < ops.size) (hun : L.getD i false = false) (hd : dstOf ops i ≠ some t)
    (hf : ∀ b k, cOf ops e2 i = some b → i < k → k < ops.size → L.getD k false = true → dstOf ops k = some t → (rs k).free b = true) :
    valL ops e2 rs env (fun k => (L.setIfInBounds i true).getD k false) t = (valL ops e2 rs env (fun k => L.getD k false) t).keep (keepO (cOf ops e2 i)) := by
  have hset : (L.setIfInBounds i true).getD i false = true := by simp [hsz, hi]
  have hp : ∀ k, ((L.setIfInBounds i true).getD k false && (dstOf ops k == some t)) = (L.getD k false && (dstOf ops k == some t)) := by
    intro k
    by_cases e : i = k
    · have hq : (dstOf ops k == some t) = false := by rw [← e]; simpa using hd
      simp only [hq, Bool.and_false]
    · rw [getD_set_ne false e]
  unfold valL
  rw [show (fun k => (L.setIfInBounds i true).getD k false && (dstOf ops k == some t)) = (fun k => L.getD k false && (dstOf ops k == some t)) from funext hp, keep_keep]
  refine keep_cong _ _ _ fun b => ?_
  by_cases hc : cOf ops e2 i = some b
  · -- this one grows the box
    have hk : keepO (cOf ops e2 i) b = false := by
      cases h : keepO (cOf ops e2 i) b
      · rfl
      · exact absurd hc (keepO_iff.1 h)
    rw [hk, Bool.and_false]
    cases hh : hit (fun k => L.getD k false && (dstOf ops k == some t)) (fun k => if (L.setIfInBounds i true).getD k false = true then cOf ops e2 k else none) ops.size b
    · exact .inl rfl
    · right; left
      obtain ⟨k', g1, g2, g3⟩ := hit_spec.1 hh i hi (by rw [if_pos hset]; exact hc)
      have hne : i ≠ k' := by
        rintro rfl
        simp only [hun, Bool.false_and, Bool.false_eq_true] at g3
      obtain ⟨k2, f1, f2, f3, f4⟩ := lastF_hit (p := fun k => L.getD k false && (dstOf ops k == some t)) (rs := rs) (x0 := get env t) g2 g3
      rw [f4]
      simp only [Bool.and_eq_true, beq_iff_eq] at f3
      exact hf b k2 hc (by omega) f2 f3.1 f3.2
  · left
    rw [keepO_iff.2 hc, Bool.and_true, Bool.eq_iff_iff, hit_spec, hit_spec]
    have hcc : ∀ k, ((if (L.setIfInBounds i true).getD k false = true then cOf ops e2 k else none) = some b) ↔ ((if L.getD k false = true then cOf ops e2 k else none) = some b) := by
      intro k
      by_cases e : i = k
      · subst e
        rw [if_pos hset, hun]
        simp [hc]
      · rw [getD_set_ne false e]
    exact ⟨fun h k hk hck => h k hk ((hcc k).2 hck), fun h k hk hck => h k hk ((hcc k).1 hck)⟩

theorem slots_put {L : Array Bool} {i : Nat} {a : Act} {v : Value} {w : World} {im0 : Bool → Nat → Prop} {β : Beta} (hsz : L.size = ops.size) (hi : i < ops.size) (hN : ∀ d, dstOf ops i = some d → d < N) (ht : a.tmps.size = N)
    (hlast : ∀ k t, i < k → k < ops.size → L.getD k false = true → dstOf ops i = some t → dstOf ops k ≠ some t) (hv : VR w im0 β (rs i) v)
    (hfree : ∀ b k, i < k → k < ops.size → L.getD k false = true → cOf ops e2 k = some b → (rs i).free b = true)
    (hs : ∀ t, dstOf ops i ≠ some t → VR w im0 β (valL ops e2 rs env (fun k => (L.setIfInBounds i true).getD k false) t) (a.tmps.getD t undef)) :
    ∀ t, VR w im0 β (valL ops e2 rs env (fun k => (L.setIfInBounds i true).getD k false) t) ((a.put (dstOf ops i) v).tmps.getD t undef) := by
  intro t
  by_cases hd : dstOf ops i = some t
  · have hset : (L.setIfInBounds i true).getD i false = true := by simp [hsz, hi]
    have hval : valL ops e2 rs env (fun k => (L.setIfInBounds i true).getD k false) t = rs i := by
      unfold valL
      rw [lastF_last (j := i) hi (by simp [hd, hsz, hi]) fun k h1 h2 => by
        show ((L.setIfInBounds i true).getD k false && (dstOf ops k == some t)) = false
        rw [getD_set_ne false (by omega)]
        cases hL : L.getD k false
        · rfl
        · simp [hlast k t h1 h2 hL hd]]
      refine Eq.trans (keep_cong _ (fun _ => true) _ fun b => ?_) (keep_all _)
      cases hh : hit (fun k => (L.setIfInBounds i true).getD k false && (dstOf ops k == some t)) (fun k => if (L.setIfInBounds i true).getD k false = true then cOf ops e2 k else none) ops.size b
      · right; left
        have : ¬ ∀ k, k < ops.size → (if (L.setIfInBounds i true).getD k false = true then cOf ops e2 k else none) = some b → ∃ k', k ≤ k' ∧ k' < ops.size ∧ ((L.setIfInBounds i true).getD k' false && (dstOf ops k' == some t)) = true := fun h => by
          rw [hit_spec.2 h] at hh
          simp at hh
        refine Classical.byContradiction fun hnf => this fun k hk hck => ?_
        split at hck
        · rename_i hLk
          rcases Nat.lt_or_ge i k with h | h
          · rw [getD_set_ne false (by omega)] at hLk
            exact absurd (hfree b k h hk hLk hck) hnf
          · exact ⟨i, h, hi, by simp only [hset, hd, beq_self_eq_true, Bool.and_true]⟩
        · simp at hck
      · exact .inl rfl
    have ht' : t < a.tmps.size := by rw [ht]; exact hN t hd
    rw [hval, hd]
    simp only [Act.put]
    rw [Array.getD_eq_getD_getElem?, Array.getElem?_setIfInBounds_self_of_lt ht']
    exact hv
  · have : (a.put (dstOf ops i) v).tmps.getD t undef = a.tmps.getD t undef := by
      cases hq : dstOf ops i with
      | none => rfl
      | some d =>
        have hne : d ≠ t := by rintro rfl; exact hd hq
        simp only [Act.put]
        rw [Array.getD_eq_getD_getElem?, Array.getElem?_setIfInBounds_ne hne, ← Array.getD_eq_getD_getElem?]
    rw [this]
    exact hs t hd

theorem false_true {L : Array Bool} {i : Nat} (h : L.getD i true = false) : L.getD i false = false := by
  rcases Nat.lt_or_ge i L.size with h1 | h1
  · rw [Array.getD_eq_getD_getElem?, Array.getElem?_eq_getElem h1] at h ⊢; exact h
  · rw [Array.getD_eq_getD_getElem?, Array.getElem?_eq_none h1] at h; simp at h

theorem true_false {L : Array Bool} {i : Nat} (hi : i < L.size) (h : L.getD i false = false) : L.getD i true = false := by
  rw [Array.getD_eq_getD_getElem?, Array.getElem?_eq_getElem hi] at h ⊢; exact h

theorem unlisted_lt {L : Array Bool} {i : Nat} (h : L.getD i true = false) : (L.setIfInBounds i true).toList.countP (!·) + 1 = L.toList.countP (!·) := by
  have hi : i < L.size := by
    rcases Nat.lt_or_ge i L.size with h1 | h1
    · exact h1
    · rw [Array.getD_eq_getD_getElem?, Array.getElem?_eq_none h1] at h; simp at h
  have hx : L.toList[i]'(by simpa using hi) = false := by
    rw [Array.getD_eq_getD_getElem?, Array.getElem?_eq_getElem hi] at h
    simpa using h
  have hpos : 0 < L.toList.countP (!·) := List.countP_pos_iff.mpr ⟨_, List.getElem_mem (by simpa using hi), by rw [hx]; rfl⟩
  rw [Array.toList_setIfInBounds, List.countP_set (by simpa using hi)]
  simp only [hx, Bool.not_false, if_true, Bool.not_true, Bool.false_eq_true, if_false]
  omega

theorem isSt_adr {op : Op} {env : Env} {bx : Bx} (h : isSt md op = true) : ∃ x, adr md env bx op = some (true, x) := by
  rcases isSt_cases h with ⟨t, a, x, he⟩ | hmk | hna | ⟨f, as, ts, he, hmd⟩
  rotate_right
  · rw [he]; exact ⟨.ns, by simp [adr, hmd]⟩
  · rw [he]; exact ⟨_, rfl⟩
  · cases op <;> first | (simp [isMk] at hmk; done) | exact ⟨_, rfl⟩ | skip
    · exact ⟨_, by simp only [isMk, Bool.not_eq_true'] at hmk; simp only [adr, hmk, Bool.false_eq_true, if_false]; rfl⟩
    · rename_i c
      obtain ⟨callee, as, ts⟩ := c
      cases callee <;> simp [isMk] at hmk
      rename_i g
      cases g <;> simp at hmk
      exact ⟨.bp bx.length 0, by simp [adr, hmk]⟩
  · cases op <;> try (simp [noApp] at hna; done)
    rename_i c
    obtain ⟨callee, args, argTypes⟩ := c
    cases callee <;> try (simp [noApp] at hna; done)
    rename_i b
    cases b <;> try (simp [noApp] at hna; done)
    simp only [adr]
    split <;> exact ⟨_, rfl⟩

theorem ld2 {op : Op} (h : mcl P md op = 2) : isLd md op = false := by
  cases hl : isLd md op
  · rfl
  · rcases isLd_cases hl with (⟨t, y, he⟩ | ⟨t, y, i, ok, he⟩) | ⟨f, as, ts, he, hf⟩ | ⟨s, t, x, he⟩
    · rw [he] at h
      simp [mcl] at h
    · rw [he] at h
      simp [mcl] at h
    · rw [he] at h
      simp [mcl, hf] at h
    · rw [he] at h
      simp only [mcl] at h
      split at h <;> omega

theorem conv_v {P : Program} {s d : TypeId} {y : Value} {bx bx1 : Bx} {r : AV} (hd : isSl P d = false) (h : convA P bx s d (.v y) = some (r, bx1)) : ∀ b, convA P b s d (.v y) = some (r, b) := by
  intro b
  unfold convA at h ⊢
  split at h
  · rename_i sd dd hs hd'
    have hne : ∀ e, dd ≠ .slice e := by
      rintro e rfl
      simp [isSl, hd'] at hd
    cases y <;> try (simp at h; done)
    · cases dd <;> try (simp at h; done)
      simp only [Option.some.injEq, Prod.mk.injEq] at h ⊢
      exact ⟨h.1, trivial⟩
    · cases dd <;> try (simp at h; done)
      · simp only [Option.some.injEq, Prod.mk.injEq] at h ⊢
        exact ⟨h.1, trivial⟩
      · exact absurd rfl (hne _)
  · simp at h

theorem drawn_any (D : DrawOk P md ops) (hE : ∀ f args bx r bx', E f args bx = some (r, bx') → Sound P f args bx r bx') (T : Two P md E N n0 ops env bx env' bx' e2 b1 b2 rs)
    {G : Gh} {w0 : World} {β0 : Beta} {Q : Exit → Act → World → Prop} {m : Nat} (hm : m ≤ bx.length) (hmn : m ≤ n0)
    (hQ : ∀ a' w' β', Ext G (fun b => decide (b < m)) w0 β0 w' β' → MR G w' β' bx' → ER ds G w' β' N env' a' → Q .normal a' w') :
    ∀ (fuel : Nat) (L : Array Bool) (a : Act) (w : World) (β : Beta) (f : Nat), L.toList.countP (!·) ≤ fuel → Inv ds P md N ops env m e2 b1 b2 rs G w0 β0 L a w β f → wpAny P .any ops Q fuel L a w := by
  have lts : ∀ (i : Nat) (o : Oper), ops[i]? = some o → i < ops.size := fun i o ho => (Array.getElem?_eq_some_iff.mp ho).1
  have hend : ∀ (L : Array Bool) (a : Act) (w : World) (β : Beta) (f : Nat), Inv ds P md N ops env m e2 b1 b2 rs G w0 β0 L a w β f → Region.ready .any ops L = [] → Q .normal a w := by
    intro L a w β f I hr
    have all : ∀ i, i < ops.size → L.getD i false = true := by
      intro i
      induction i using Nat.strongRecOn with
      | _ i ih =>
        intro hi
        cases hL : L.getD i false
        · exfalso
          have hmem : i ∈ Region.ready .any ops L := by
            rw [mem_ready]
            refine ⟨true_false (by rw [I.size]; exact hi) hL, ops[i], Array.getElem?_eq_getElem hi, fun e he hb => ?_⟩
            have := D.edge i _ (Array.getElem?_eq_getElem hi) e he hb
            exact ih e.on this (by omega)
          rw [hr] at hmem
          simp at hmem
        · rfl
    have hb : b2 f = bx' := by
      rw [← T.fin.2]
      exact T.same D I.fle (Nat.le_refl _) fun k o hk hk2 ho hc => by
        have := (I.cls k o ho hc).mp (all k hk2); omega
    refine hQ a w β I.ext (hb ▸ I.mr) ⟨I.tsz, I.tdf, fun t => ?_⟩
    have hs := I.slots t
    rw [T.agree D (i := ops.size) (Nat.le_refl _) (fun k hk _ => ⟨fun _ => hk, fun _ => all k hk⟩) (fun k hk _ _ => hk) (fun k b hk _ => .inl ⟨fun _ => hk, fun _ => all k hk⟩), T.fin.1] at hs
    exact hs
  intro fuel
  induction fuel with
  | zero =>
    intro L a w β f hc I
    have hr : Region.ready .any ops L = [] := by
      rw [List.eq_nil_iff_forall_not_mem]
      intro i hi
      have := unlisted_lt (mem_ready.mp hi).1
      omega
    exact ⟨hr, hend L a w β f I hr⟩
  | succ fuel ih =>
    intro L a w β f hc I
    refine ⟨hend L a w β f I, fun i hi => ?_⟩
    obtain ⟨hun, o, ho, hedges⟩ := mem_ready.mp hi
    have hun' := false_true hun
    have hin := lts i o ho
    have hcnt : (L.setIfInBounds i true).toList.countP (!·) ≤ fuel := by have := unlisted_lt hun; omega
    have hdo : dstOf ops i = o.dst := by simp [dstOf, ho]
    -- what stands ahead
    have dep : ∀ k, (((Region.before ops).getD i 0).testBit k) = true → L.getD k false = true := fun k hb =>
      before_spec (L := fun k => L.getD k false = true) i o k ho hb I.closed hedges
    have dep2 : ∀ (k : Nat) (o' : Oper), ops[k]? = some o' → (((Region.before ops).getD k 0).testBit i) = true → L.getD k false = true → False := by
      intro k o' ho' hb hL
      have := before_spec (L := fun k => L.getD k false = true) k o' i ho' hb I.closed (I.closed k o' ho' hL)
      rw [hun'] at this
      exact absurd this (by simp)
    have apl : ∀ (k : Nat) (o' : Oper), ops[k]? = some o' → i < k → L.getD k false = true → o.apart ops o' = true := by
      intro k o' ho' hik hL
      refine D.apart i o ho k o' hik ho' fun e he hb ec => ?_
      have := I.closed k o' ho' hL e he hb
      rw [ec, hun'] at this
      exact absurd this (by simp)
    have hlast : ∀ k t, i < k → k < ops.size → L.getD k false = true → dstOf ops i = some t → dstOf ops k ≠ some t := by
      intro k t hik hk hL hd hk2
      have ho' : ops[k]? = some ops[k] := Array.getElem?_eq_getElem hk
      have h1 := (Oper.apart_spec (apl k _ ho' hik hL)).2.1 t (by rw [← hdo]; exact hd)
      exact h1 (by simpa [dstOf, ho'] using hk2)
    have hclosed' : ∀ (k : Nat) (o' : Oper), ops[k]? = some o' → (L.setIfInBounds i true).getD k false = true → ∀ e ∈ o'.after, Region.binds .any e = true → (L.setIfInBounds i true).getD e.on false = true := by
      intro k o' ho' hL e he hb
      by_cases ek : i = k
      · subst ek
        rw [ho] at ho'
        simp only [Option.some.injEq] at ho'
        subst ho'
        exact getD_set_true (hedges e he hb)
      · rw [getD_set_ne false ek] at hL
        exact getD_set_true (I.closed k o' ho' hL e he hb)
    have hset : (L.setIfInBounds i true).getD i false = true := by simp [I.size, hin]
    show wpOp P ops Q i (wpAny P .any ops Q fuel (L.setIfInBounds i true)) a w
    unfold wpOp
    rw [ho]
    simp only
    have hkind := D.kind i o ho
    cases hh : hoist o.op
    · -- the rest
      rw [if_neg (by simp [hh])] at hkind
      have hst : StepR P md E N n0 (fun o => !hoist o) ops o (e2 i) (b2 i) (rs i) (e2 (i + 1)) (b2 (i + 1)) := by
        rcases T.st i o ho with h | h
        · exact h
        · rw [hh] at h; simp at h
      have lax : ∀ k b, k < ops.size → cOf ops e2 k = some b → (L.getD k false = true ↔ k < i) ∨ ((rs i).free b = true ∧ ∀ t ∈ o.looksAt ops, (get (e2 i) t).free b = true) := by
        intro k b hk hc
        by_cases hik : L.getD k false = true ↔ k < i
        · exact .inl hik
        · right
          obtain ⟨o', ho', hh', hna, _⟩ := cOf_spec hc
          have hne : i ≠ k := by
            rintro rfl
            exact hik ⟨fun h => by rw [hun'] at h; simp at h, fun h => absurd h (Nat.lt_irrefl _)⟩
          refine T.unbound ho hh hc hne (fun hki => ?_) (fun hki => ?_)
          · cases hb : ((Region.before ops).getD i 0).testBit k
            · rfl
            · exact absurd ⟨fun _ => hki, fun _ => dep k hb⟩ hik
          · cases hb : ((Region.before ops).getD k 0).testBit i
            · rfl
            · refine absurd ⟨fun hL => (dep2 k o' ho' hb hL).elim, fun h => ?_⟩ hik
              omega
      have hfree : ∀ b k, i < k → k < ops.size → L.getD k false = true → cOf ops e2 k = some b → (rs i).free b = true := by
        intro b k hik hk hL hc
        rcases lax k b hk hc with h | h
        · have := h.1 hL; omega
        · exact h.1
      have hag : ∀ t ∈ o.looksAt ops, VR w (im G w β) β (get (e2 i) t) (a.tmps.getD t undef) := by
        intro t ht
        have hs := I.slots t
        rw [T.agree D (i := i) (by omega) (fun k hk hd => ?_) (fun k hk hhk hd => ?_) (fun k b hk hc => ?_)] at hs
        · exact hs
        rotate_right
        · rcases lax k b hk hc with h | h
          · exact .inl h
          · exact .inr (h.2 t ht)
        · have ho' : ops[k]? = some ops[k] := Array.getElem?_eq_getElem hk
          have hd' : ops[k].dst = some t := by simpa [dstOf, ho'] using hd
          constructor
          · intro hL
            rcases Nat.lt_trichotomy k i with h | h | h
            · exact h
            · subst h; rw [hun'] at hL; simp at hL
            · exact absurd ht ((Oper.apart_spec (apl k _ ho' h hL)).2.2 t hd')
          · intro hki
            cases hL : L.getD k false
            · exfalso
              have hap := D.apart k _ ho' i o hki ho fun e he hb ec => by
                have := hedges e he hb
                rw [ec, hL] at this
                simp at this
              exact absurd ht ((Oper.apart_spec hap).1 t hd')
            · rfl
        · have ho' : ops[k]? = some ops[k] := Array.getElem?_eq_getElem hk
          have hd' : ops[k].dst = some t := by simpa [dstOf, ho'] using hd
          have hhk' : hoist ops[k].op = true := by simpa [hOf, ho'] using hhk
          rcases Nat.lt_trichotomy k i with h | h | h
          · exact h
          · subst h
            rw [ho] at ho'
            simp only [Option.some.injEq] at ho'
            rw [← ho', hh] at hhk'
            simp at hhk'
          · have := D.h1 i k o _ h ho ho' hhk' t hd'
            simp [touches, ht] at this
      have hc2 : isLd md o.op = false → 1 ≤ mcl P md o.op → ∀ (k : Nat) (o' : Oper), ops[k]? = some o' → mcl P md o'.op = 2 → k ≠ i → (L.getD k false = true ↔ k < i) := by
        intro hl h1 k o' ho' hk2 hne
        constructor
        · intro hL
          rcases Nat.lt_or_ge k i with h | h
          · exact h
          · rcases D.w1 i k o o' (by omega) ho ho' hk2 (.inr h1) with h | h
            · exact (dep2 k o' ho' h hL).elim
            · rcases h with h | h
              · rw [hl] at h; exact absurd h.2 (by simp)
              · rw [hh] at h; exact absurd h.2 (by simp)
        · intro hki
          rcases D.w2 k i o' o hki ho' ho hk2 h1 with h | h | h
          · exact dep k h
          · rw [hl] at h; exact absurd h.2 (by simp)
          · rw [hh] at h; exact absurd h.2 (by simp)
      have hbx : isLd md o.op = false → 1 ≤ mcl P md o.op → b2 f = b2 i := by
        intro hl h1
        rcases Nat.lt_or_ge f i with h | h
        · refine T.same D (by omega) (by omega) fun k o' hk1 hk2 ho' hk => ?_
          have := (I.cls k o' ho' hk).mp ((hc2 hl h1 k o' ho' hk (by omega)).mpr hk2)
          omega
        · refine (T.same D h I.fle fun k o' hk1 hk2 ho' hk => ?_).symm
          have hL := (I.cls k o' ho' hk).mpr hk2
          by_cases ek : k = i
          · subst ek; rw [hun'] at hL; simp at hL
          · have := (hc2 hl h1 k o' ho' hk ek).mp hL; omega
      -- a 'load' sees the same here; a call with plain arguments looks at no box
      have hld : ∀ y, adr md (e2 i) (b2 i) o.op = some (false, y) → isLd md o.op = true → 1 ≤ mcl P md o.op →
          (i ≤ f → ∀ (k : Nat) (o' : Oper), i ≤ k → k < f → ops[k]? = some o' → mcl P md o'.op = 2 → isSt md o'.op = true ∧ ∀ x, adr md (e2 k) (b2 k) o'.op = some (true, x) → apartV x y = true) ∧
          (f < i → ∀ (k : Nat) (o' : Oper), f ≤ k → k < i → ops[k]? = some o' → mcl P md o'.op = 2 → isSt md o'.op = true ∧ ∀ x, adr md (e2 k) (b2 k) o'.op = some (true, x) → apartV x y = true) := by
        intro y hadr hl h1
        have hb : ∀ k, (((Region.before ops).getD i 0).testBit k) = true → L.getD k false = false → False := fun k hb hL => by
          rw [dep k hb] at hL; simp at hL
        constructor
        · intro h k o' hk1 hk2 ho' hk
          have hL := (I.cls k o' ho' hk).mpr hk2
          have hne : i ≠ k := by rintro rfl; rw [hun'] at hL; simp at hL
          rcases D.w1 i k o o' (by omega) ho ho' hk (.inr h1) with h2 | h2 | h2
          · exact (dep2 k o' ho' h2 hL).elim
          rotate_left
          · rw [hh] at h2; exact absurd h2.2 (by simp)
          · refine ⟨h2.1, fun x hx => ?_⟩
            have := (T.ap i k o o' (by omega) ho ho' hh (by cases hq : hoist o'.op; rfl; rw [mcl_hoist hq] at hk; simp at hk)).1 false _ hadr
            rw [hx] at this
            simp only [okD, Bool.or_eq_true] at this
            rcases this with (h3 | h3) | h3
            · simp at h3
            · exact (dep2 k o' ho' h3 hL).elim
            · simpa using h3
        · intro h k o' hk1 hk2 ho' hk
          have hL : L.getD k false = false := by
            cases hL : L.getD k false
            · rfl
            · have := (I.cls k o' ho' hk).mp hL; omega
          rcases D.w2 k i o' o hk2 ho' ho hk h1 with h2 | h2 | h2
          · exact (hb k h2 hL).elim
          rotate_left
          · rw [hh] at h2; exact absurd h2.2 (by simp)
          · refine ⟨h2.1, fun x hx => ?_⟩
            have := (T.ap k i o' o hk2 ho' ho (by cases hq : hoist o'.op; rfl; rw [mcl_hoist hq] at hk; simp at hk) hh).1 true x hx
            rw [hadr] at this
            simp only [okD, Bool.or_eq_true] at this
            rcases this with (h3 | h3) | h3
            · simp at h3
            · exact (hb k h3 hL).elim
            · simpa using h3
      have still : (i ≤ f → ∀ (k : Nat) (o' : Oper), i ≤ k → k < f → ops[k]? = some o' → mcl P md o'.op = 2 → isSt md o'.op = true ∧ ∀ x, adr md (e2 k) (b2 k) o'.op = some (true, x) → apartV x .junk = true) →
          (f < i → ∀ (k : Nat) (o' : Oper), f ≤ k → k < i → ops[k]? = some o' → mcl P md o'.op = 2 → isSt md o'.op = true ∧ ∀ x, adr md (e2 k) (b2 k) o'.op = some (true, x) → apartV x .junk = true) → b2 f = b2 i := by
        intro c1 c2
        have hbad : ∀ (k : Nat) (o' : Oper), isSt md o'.op = true → (∀ x, adr md (e2 k) (b2 k) o'.op = some (true, x) → apartV x .junk = true) → False := by
          intro k o' hst hx
          obtain ⟨x, hx'⟩ := isSt_adr (env := e2 k) (bx := b2 k) hst
          have := hx x hx'
          cases x <;> simp [apartV] at this
        rcases Nat.lt_or_ge f i with h | h
        · exact T.same D (by omega) (by omega) fun k o' hk1 hk2 ho' hk => let c := c2 h k o' hk1 hk2 ho' hk; hbad k o' c.1 c.2
        · exact (T.same D h I.fle fun k o' hk1 hk2 ho' hk => let c := c1 h k o' hk1 hk2 ho' hk; hbad k o' c.1 c.2).symm
      have hbl : isLd md o.op = true → ∀ en1 bx1, evOp P md E n0 (e2 i) (b2 i) o.op = some (rs i, en1, bx1) → evOp P md E n0 (e2 i) (b2 f) o.op = some (rs i, e2 i, b2 f) := by
        intro hl en1 bx1 g1
        rcases isLd_cases hl with hly | ⟨g, as, ts, he, hmd⟩ | ⟨s, d, x, he⟩
        · obtain ⟨rd, y, hadr, h1m, hrd⟩ : ∃ (rd : Rd) (y : Operand), adr md (e2 i) (b2 i) o.op = some (false, opnd (e2 i) y) ∧ 1 ≤ mcl P md o.op ∧ ∀ b, evOp P md E n0 (e2 i) b o.op = (rdA P b rd (opnd (e2 i) y)).map fun r => (r, e2 i, b) := by
            rcases hly with ⟨t, y, he⟩ | ⟨t, y, ix, ok, he⟩
            · exact ⟨.ld t, y, by rw [he]; rfl, by rw [he]; exact Nat.le_refl 1, fun b => by rw [he]; rfl⟩
            · exact ⟨.lk t (opnd (e2 i) ix) ok, y, by rw [he]; rfl, by rw [he]; exact Nat.le_refl 1, fun b => by rw [he]; rfl⟩
          obtain ⟨c1, c2⟩ := hld _ hadr hl h1m
          rw [hrd] at g1 ⊢
          simp only [Option.map_eq_some_iff, Prod.mk.injEq] at g1 ⊢
          obtain ⟨r0, hr0, hr1, _, _⟩ := g1
          subst hr1
          refine ⟨rs i, ?_, by simp⟩
          rcases Nat.lt_or_ge f i with h | h
          · obtain ⟨q, hq, hs⟩ := T.seen D (t := rd) (y := opnd (e2 i) y) (j1 := f) (j2 := i) (by omega) (by omega) (c2 h)
            rw [hr0] at hs
            obtain ⟨z, hz, hzq⟩ := Option.map_eq_some_iff.1 hs.symm
            rw [hz]
            congr 1
            refine Eq.trans (keep_all z).symm (Eq.trans (keep_cong _ q z fun b => ?_) hzq)
            cases hqb : q b
            · right; right
              rw [hzq]
              obtain ⟨k, f1, f2, f3⟩ := hq b hqb
              obtain ⟨o', ho', _, hna, _⟩ := cOf_spec f3
              rcases lax k b (by omega) f3 with h' | h'
              · have := (I.cls k o' ho' (app_mcl hna).1).mp (h'.2 f2); omega
              · exact h'.1
            · exact .inl rfl
          · obtain ⟨q, hq, hs⟩ := T.seen D (t := rd) (y := opnd (e2 i) y) (j1 := i) (j2 := f) h I.fle (c1 h)
            rw [hs, hr0, Option.map_some]
            congr 1
            refine Eq.trans (keep_cong q (fun _ => true) (rs i) fun b => ?_) (keep_all _)
            cases hqb : q b
            · right; left
              obtain ⟨k, f1, f2, f3⟩ := hq b hqb
              obtain ⟨o', ho', _, hna, _⟩ := cOf_spec f3
              rcases lax k b (Nat.lt_of_lt_of_le f2 I.fle) f3 with h' | h'
              · have := h'.1 ((I.cls k o' ho' (app_mcl hna).1).mpr f2); omega
              · exact h'.1
            · exact .inl rfl
        · have hadr : adr md (e2 i) (b2 i) o.op = some (false, callAd (as.toList.map (opnd (e2 i)))) := by rw [he]; simp [adr, hmd]
          have hm1 : mcl P md o.op = 1 := by rw [he]; simp [mcl, hmd]
          obtain ⟨c1, c2⟩ := hld _ hadr hl (by omega)
          have hrun : ∀ b, (as.toList.map (opnd (e2 i))).map (frz b true 6) = (as.toList.map (opnd (e2 i))).map (frz (b2 i) true 6) → evOp P md E n0 (e2 i) b o.op = some (rs i, e2 i, b) := by
            intro b hfr
            rw [he] at g1 ⊢
            simp only [evOp, opnd, List.nil_append, List.append_nil, callA, mdG_func, hmd, Option.map_map, Option.map_eq_some_iff, Function.comp_apply, Prod.mk.injEq] at g1 ⊢
            obtain ⟨r0, h1, h2, _⟩ := g1
            exact ⟨r0, by rw [hfr]; exact h1, by simp [h2]⟩
          by_cases hv : (as.toList.map (opnd (e2 i))).all isV = true
          · -- plain arguments
            have hfr : ∀ bx, (as.toList.map (opnd (e2 i))).map (frz bx true 6) = as.toList.map (opnd (e2 i)) := by
              intro bx
              refine Eq.trans (List.map_congr_left (g := id) fun x hx => ?_) (List.map_id _)
              have := List.all_eq_true.1 hv x hx
              cases x <;> first | rfl | (simp [isV] at this; done)
            exact hrun _ (by rw [hfr, hfr])
          · have hno : callAd (as.toList.map (opnd (e2 i))) = .junk := by
              unfold callAd
              rw [if_neg hv]
            rw [hno] at c1 c2
            have hbx' : b2 f = b2 i := still c1 c2
            exact hrun _ (by rw [hbx'])
        · have hadr : adr md (e2 i) (b2 i) o.op = some (false, callAd [opnd (e2 i) x]) := by rw [he]; rfl
          have hsl : isSl P d = false := by
            rw [he] at hkind
            cases hb : isSl P d
            · rfl
            · simp [mcl, hb] at hkind
          have hm1 : mcl P md o.op = 1 := by rw [he]; simp [mcl, hsl]
          obtain ⟨c1, c2⟩ := hld _ hadr hl (by omega)
          cases hx : opnd (e2 i) x
          case v y =>
            rw [he] at g1 ⊢
            simp only [evOp, hx, Option.map_eq_some_iff, Prod.mk.injEq] at g1 ⊢
            obtain ⟨⟨r0, b0⟩, h1, h2, _⟩ := g1
            simp only at h2
            subst h2
            exact ⟨(rs i, b2 f), conv_v hsl h1 _, by simp⟩
          all_goals
            have hno : callAd [opnd (e2 i) x] = .junk := by rw [hx]; rfl
            rw [hno] at c1 c2
            have hbx' : b2 f = b2 i := still c1 c2
            obtain ⟨he1, _, hk1⟩ := ev1 hkind (by rw [he]; rfl) g1
            rw [hbx', g1, he1, hk1 (by omega)]
      have hcls0 : mcl P md o.op ≠ 2 → ∀ (k : Nat) (o' : Oper), ops[k]? = some o' → mcl P md o'.op = 2 → ((L.setIfInBounds i true).getD k false = true ↔ k < f) := by
        intro h2 k o' ho' hk
        have hne : i ≠ k := by
          rintro rfl
          rw [ho] at ho'
          simp only [Option.some.injEq] at ho'
          subst ho'
          exact h2 hk
        rw [getD_set_ne false hne]
        exact I.cls k o' ho' hk
      have hcls2 : mcl P md o.op = 2 → ∀ (k : Nat) (o' : Oper), ops[k]? = some o' → mcl P md o'.op = 2 → ((L.setIfInBounds i true).getD k false = true ↔ k < i + 1) := by
        intro h2 k o' ho' hk
        by_cases e : k = i
        · subst e
          simp [hset]
        · rw [getD_set_ne false (Ne.symm e), hc2 (ld2 h2) (by omega) k o' ho' hk e]
          omega
      unfold StepR at hst
      rw [if_pos (by simp [hh])] at hst
      have hwant : ∀ b, wantA ops (e2 i) o = some b → Region.wanted o (yielded ops a.tmps) = b := by
        intro b hw
        refine want_ok (G := G) (w := w) (β := β) hw fun g want d hg hd => hag d ?_
        unfold Oper.looksAt
        rw [List.mem_append]
        right
        simp [hg, hd]
      have hops : ∀ x ∈ o.op.operands, VR w (im G w β) β (opnd (e2 i) x) (a.eval x) := by
        intro x hx
        cases x with
        | tmp t =>
          refine hag t ?_
          unfold Oper.looksAt
          exact List.mem_append_left _ (List.mem_filterMap.2 ⟨.tmp t, by simpa using hx, rfl⟩)
        | const v => exact .v v
        | global g => exact .junk _
        | func f => exact .fn f [] [] #[] #[] rfl rfl (fun i x y hx => by simp at hx) (fun i x y hx => by simp at hx)
      have hlate : ∀ b k, cOf ops e2 i = some b → i < k → k < ops.size → L.getD k false = true → dstOf ops k = some (dstOf ops k |>.getD 0) → (rs k).free b = true := by
        intro b k hc hik hk hL _
        have ho' : ops[k]? = some ops[k] := Array.getElem?_eq_getElem hk
        obtain ⟨o', ho2, _, hna, _⟩ := cOf_spec hc
        rw [ho] at ho2
        simp only [Option.some.injEq] at ho2
        subst ho2
        have hhk : hoist ops[k].op = false := by
          rcases D.w3 i k o _ hik ho ho' (app_mcl (P := P) (md := md) hna).1 with h | h
          · exact h
          · rw [(app_mcl (P := P) (md := md) hna).2.2.1] at h; simp at h
        refine (T.unbound ho' hhk hc (by omega) (fun _ => ?_) (fun h => by omega)).1
        cases hb : ((Region.before ops).getD k 0).testBit i
        · rfl
        · exact (dep2 k _ ho' hb hL).elim
      have hlate' : ∀ t b k, cOf ops e2 i = some b → i < k → k < ops.size → L.getD k false = true → dstOf ops k = some t → (rs k).free b = true :=
        fun t b k h1 h2 h3 h4 h5 => hlate b k h1 h2 h3 h4 (by rw [h5]; rfl)
      rcases hst with ⟨hw, en1, g1, g2⟩ | ⟨hw, hr, g2, g3⟩
      · rw [hwant _ hw]
        simp only [if_true]
        cases hna : noApp o.op
        · -- 'append'
          have c2 := (app_mcl (P := P) (md := md) hna).1
          have hev : evOp P md E n0 (e2 i) (b2 f) o.op = some (rs i, en1, b2 (i + 1)) := by rw [hbx (ld2 c2) (by omega)]; exact g1
          obtain ⟨x, hx, run⟩ := evOp_app (a := a) I.mr hev hops hna
          have hcx : cOf ops e2 i = apB x := by
            unfold cOf
            rw [ho]
            simp only [hh, Bool.false_eq_true, if_false]
            rw [if_pos hw, hx, Option.bind_some]
          refine .inl (run _ _ fun v w' β' k1 k2 k3 k4 => ?_)
          refine ih _ _ w' β' (i + 1) hcnt ⟨by simpa using I.size, hclosed', hin, hcls2 c2, k2, ?_, ?_, ?_, ?_, I.ext.trans (k1.weaken fun b hb => ?_)⟩
          · rw [← I.tsz]; cases o.dst <;> simp [Act.put]
          · rw [← I.tdf]; cases o.dst <;> rfl
          · rw [← hdo]
            refine slots_put I.size hin (T.dlt i) I.tsz hlast k3 hfree fun t hd => ?_
            rw [val_step I.size hin hun' hd (hlate' t), hcx]
            exact k4 _ _ (I.slots t)
          · intro k o' ho' hk hL
            exfalso
            have hne : i ≠ k := by rintro rfl; rw [hset] at hL; simp at hL
            rw [getD_set_ne false hne] at hL
            rcases Nat.lt_or_ge k i with h | h
            · rcases D.w1 k i o' o h ho' ho c2 (.inl hk) with h2 | h2 | h2
              · rw [dep k h2] at hL; simp at hL
              · rcases isLd_cases h2.2 with (⟨t, y, he⟩ | ⟨t, y, i, ok, he⟩) | ⟨g, as, ts, he, _⟩ | ⟨s, t, x, he⟩ <;> (rw [he] at hk; simp [hoist] at hk)
              · rw [(app_mcl (P := P) (md := md) hna).2.2.1] at h2; exact absurd h2.1 (by simp)
            · rcases D.w3 i k o o' (by omega) ho ho' c2 with h2 | h2
              · rw [hk] at h2; simp at h2
              · rw [(app_mcl (P := P) (md := md) hna).2.2.1] at h2; simp at h2
          · simp at hb ⊢
            omega
        obtain ⟨rfl, hna', hk1⟩ := ev1 hkind hna g1
        have hci : cOf ops e2 i = none := by
          unfold cOf
          rw [ho]
          simp only [hh, Bool.false_eq_true, if_false]
          rw [if_pos hw, apO_no hna, Option.bind_none]
        obtain ⟨f', hf', hev, hcl'⟩ : ∃ f', f' ≤ ops.size ∧ evOp P md E n0 (e2 i) (b2 f) o.op = some (rs i, e2 i, b2 f') ∧
            ∀ (k : Nat) (o' : Oper), ops[k]? = some o' → mcl P md o'.op = 2 → ((L.setIfInBounds i true).getD k false = true ↔ k < f') := by
          by_cases c2 : mcl P md o.op = 2
          · exact ⟨i + 1, hin, by rw [hbx (ld2 c2) (by omega)]; exact g1, hcls2 c2⟩
          · refine ⟨f, I.fle, ?_, hcls0 c2⟩
            by_cases c0 : mcl P md o.op = 0
            · exact (ev0 c0 g1).2.2 _
            · cases hl : isLd md o.op
              · rw [hbx hl (by omega)]
                rw [g1, hk1 c2]
              · exact hbl hl _ _ g1
        obtain ⟨_, run⟩ := evOp_str (a := a) I.mr hE hev hops hna
        refine .inl (run _ _ fun v w' β' ⟨k1, k2, k3⟩ => ?_)
        refine ih _ _ w' β' f' hcnt ⟨by simpa using I.size, hclosed', hf', hcl', k2, ?_, ?_, ?_, ?_, I.ext.trans (k1.weaken fun _ _ => rfl)⟩
        · rw [← I.tsz]; cases o.dst <;> simp [Act.put]
        · rw [← I.tdf]; cases o.dst <;> rfl
        · rw [← hdo]
          refine slots_put I.size hin (T.dlt i) I.tsz hlast k3 hfree fun t hd => ?_
          rw [val_step I.size hin hun' hd (hlate' t), hci]
          rw [show keepO none = fun _ => true from rfl, keep_all]
          exact k1.vr (I.slots t)
        · intro k o' ho' hk hL
          have hne : i ≠ k := by rintro rfl; rw [hset] at hL; simp at hL
          rw [getD_set_ne false hne] at hL
          exact k1.bt.ab rfl (I.ab k o' ho' hk hL)
      · rw [hwant _ hw]
        simp only [Bool.false_eq_true, if_false]
        have hci : cOf ops e2 i = none := by
          unfold cOf
          rw [ho]
          simp only [hh, Bool.false_eq_true, if_false]
          rw [if_neg (by rw [hw]; simp)]
        obtain ⟨f', hf', hev, hcl'⟩ : ∃ f', f' ≤ ops.size ∧ b2 f' = b2 f ∧
            ∀ (k : Nat) (o' : Oper), ops[k]? = some o' → mcl P md o'.op = 2 → ((L.setIfInBounds i true).getD k false = true ↔ k < f') := by
          by_cases c2 : mcl P md o.op = 2
          · exact ⟨i + 1, hin, by rw [g3, hbx (ld2 c2) (by omega)], hcls2 c2⟩
          · exact ⟨f, I.fle, rfl, hcls0 c2⟩
        refine ih _ _ w β f' hcnt ⟨by simpa using I.size, hclosed', hf', hcl', hev ▸ I.mr, ?_, ?_, ?_, ?_, I.ext⟩
        · rw [← I.tsz]; cases o.dst <;> simp [Act.put]
        · rw [← I.tdf]; cases o.dst <;> rfl
        · rw [← hdo]
          refine slots_put I.size hin (T.dlt i) I.tsz hlast (by rw [hr]; exact .v undef) hfree fun t hd => ?_
          rw [val_step I.size hin hun' hd (hlate' t), hci]
          rw [show keepO none = fun _ => true from rfl, keep_all]
          exact I.slots t
        · intro k o' ho' hk hL
          have hne : i ≠ k := by rintro rfl; rw [hset] at hL; simp at hL
          rw [getD_set_ne false hne] at hL
          exact I.ab k o' ho' hk hL
    · -- what is made ahead of the rest
      rw [if_pos hh] at hkind
      have hw : Region.wanted o (yielded ops a.tmps) = true := by simp [Region.wanted, hkind]
      rw [hw]
      simp only [if_true]
      obtain ⟨e, en1, g1⟩ := T.hz i o ho hh
      obtain ⟨rfl, z, hz, run⟩ := hoist_ok hh g1
      have hB : (b2 f)[(b1 i).length]? = some z := by
        refine T.kept D I.fle (fun k o' hk2 ho' hk => ?_) (T.idz i o z ho hh hz)
        have hL := (I.cls k o' ho' hk).mpr hk2
        rcases Nat.lt_trichotomy k i with h | h | h
        · rcases D.w3 k i o' o h ho' ho hk with h3 | h3
          · rw [hh] at h3
            simp at h3
          · exact h3
        · subst h; rw [hun'] at hL; simp at hL
        · rcases D.w1 i k o o' h ho ho' hk (.inl hh) with h | h | h
          · exact (dep2 k o' ho' h hL).elim
          · rcases isLd_cases h.2 with (⟨t, y, he⟩ | ⟨t, y, i, ok, he⟩) | ⟨g, as, ts, he, _⟩ | ⟨s, t, x, he⟩ <;> (rw [he] at hh; simp [hoist] at hh)
          · exact h.1
      refine .inl (run I.mr (I.ab i o ho hh hun') hB a _ _ fun v w' β' hβ k1 k2 k3 k4 => ?_)
      refine ih _ _ w' β' f hcnt ⟨by simpa using I.size, hclosed', I.fle, ?_, k1, ?_, ?_, ?_, ?_, I.ext.trans (k2.weaken fun b hb => ?_)⟩
      · intro k o' ho' hk
        have hne : i ≠ k := by
          rintro rfl
          rw [ho] at ho'
          simp only [Option.some.injEq] at ho'
          subst ho'
          rw [mcl_hoist hh] at hk
          simp at hk
        rw [getD_set_ne false hne]
        exact I.cls k o' ho' hk
      · rw [← I.tsz]; cases o.dst <;> simp [Act.put]
      · rw [← I.tdf]; cases o.dst <;> rfl
      · rw [← hdo]
        have hci : cOf ops e2 i = none := by
          unfold cOf
          rw [ho]
          simp only [hh, if_true]
        refine slots_put I.size hin (T.dlt i) I.tsz hlast k4 (fun b k hik hk hL hc => ?_) fun t hd => ?_
        · exfalso
          obtain ⟨o', ho', _, hna, _⟩ := cOf_spec hc
          rcases D.w1 i k o o' hik ho ho' (app_mcl (P := P) (md := md) hna).1 (.inl hh) with h | h | h
          · exact dep2 k o' ho' h hL
          · rcases isLd_cases h.2 with (⟨t, y, he⟩ | ⟨t, y, i, ok, he⟩) | ⟨g, as, ts, he, _⟩ | ⟨s, t, x, he⟩ <;> (rw [he] at hh; simp [hoist] at hh)
          · rw [(app_mcl (P := P) (md := md) hna).2.2.1] at h; exact absurd h.1 (by simp)
        · rw [val_step I.size hin hun' hd (fun b k hc => by rw [hci] at hc; simp at hc), hci]
          rw [show keepO none = fun _ => true from rfl, keep_all]
          exact k3 (I.slots t)
      · intro k o' ho' hk hL
        have hne : i ≠ k := by rintro rfl; rw [hset] at hL; simp at hL
        rw [getD_set_ne false hne] at hL
        rw [hβ _ (T.idne k i o' o ho' hk ho hh (Ne.symm hne))]
        exact I.ab k o' ho' hk hL
      · have := T.ge i hin
        simp at hb ⊢
        omega

theorem evReg_wp {G : Gh} {w : World} {β : Beta} {id : Nat} {a : Act} {draw : Bool} {Q : Exit → Act → World → Prop} (hd : draw = true → drawOk P md ops = true) (hn : n0 ≤ bx.length)
    (hE : ∀ f args bx r bx', E f args bx = some (r, bx') → Sound P f args bx r bx')
    (h : evReg P md E N n0 ops draw env bx = some (env', bx')) (hM : MR G w β bx) (hR : ER ds G w β N env a)
    (hQ : ∀ a' w' β', Ext G (fun b => decide (b < n0)) w β w' β' → MR G w' β' bx' → ER ds G w' β' N env' a' → Q .normal a' w') : (Code.region id ops draw).wp P Q a w := by
  cases draw
  · simp only [evReg, Bool.false_eq_true, if_false] at h
    exact wp_region_list (evOps_wp hE _ h hM hR hQ)
  · have D := drawOk_spec (hd rfl)
    obtain ⟨e2, b1, b2, rs, T⟩ := two D h
    refine wp_region_any D.mixed ?_
    obtain ⟨x, hx⟩ := T.ext
    obtain ⟨m1, x1⟩ := MR.congr (w' := { w with drawn := w.drawn + 1 }) hM rfl ⟨rfl, rfl, rfl⟩
    obtain ⟨m2, x2⟩ := MR.absent x m1
    have x3 := x1.trans x2
    have hrep : ∀ i, (Array.replicate ops.size false).getD i false = false := by
      intro i
      rw [Array.getD_eq_getD_getElem?, Array.getElem?_replicate]
      split <;> rfl
    refine drawn_any D hE T (m := n0) hn (Nat.le_refl _) hQ ops.size (Array.replicate ops.size false) a _ _ 0 (Nat.le_trans List.countP_le_length (by simp)) ⟨by simp, ?_, Nat.zero_le _, ?_, by rw [hx]; exact m2, hR.sz, hR.df, ?_, ?_, x3.weaken fun _ _ => rfl⟩
    · intro k o ho hL
      rw [hrep] at hL
      simp at hL
    · intro k o ho hk
      rw [hrep]
      simp
    · intro t
      unfold valL
      rw [lastF_none fun k _ => by simp only [hrep, Bool.false_and], hit_none fun k _ => by simp only [hrep, Bool.false_eq_true, if_false], keep_all]
      exact x3.vr (hR.vr t)
    · intro i o ho hh _
      obtain ⟨e, en1, g1⟩ := T.hz i o ho hh
      obtain ⟨_, z, hz, _⟩ := hoist_ok hh g1
      have h1 := T.idz i o z ho hh hz
      rw [hx] at h1
      have h2 := (List.getElem?_eq_some_iff.mp h1).1
      have h3 := T.ge i (Array.getElem?_eq_some_iff.mp ho).1
      rw [List.getElem?_append_right (by rw [hM.len]; exact h3), List.getElem?_replicate, if_pos]
      rw [List.length_append] at h2
      rw [hM.len]; omega
end
end Go.Sy
