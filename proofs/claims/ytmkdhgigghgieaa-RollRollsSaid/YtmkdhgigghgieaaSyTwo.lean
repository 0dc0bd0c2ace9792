/-
  The reader's regions that draw their order, against the machine's: the reader's two rounds.
-/
import Derived.Test.YtmkdhgigghgieaaSyAny
namespace Go.Sy

section
variable {P : Program} {md : FuncId → Md} {E : FnA} {N n0 : Nat} {ops : Array Oper}

theorem lastF_congr2 {p : Nat → Bool} {rs rs' : Nat → AV} {x0 : AV} : ∀ {n : Nat}, (∀ i, i < n → p i = true → rs i = rs' i) → lastF p rs x0 n = lastF p rs' x0 n
  | 0, _ => rfl
  | n + 1, h => by
    simp only [lastF, lastF_congr2 (n := n) (fun i hi => h i (by omega))]
    split
    · exact h n (by omega) (by assumption)
    · rfl

theorem lastF_none {p : Nat → Bool} {rs : Nat → AV} {x0 : AV} : ∀ {n : Nat}, (∀ i, i < n → p i = false) → lastF p rs x0 n = x0
  | 0, _ => rfl
  | n + 1, h => by simp only [lastF, h n (by omega), Bool.false_eq_true, if_false]; exact lastF_none fun i hi => h i (by omega)

theorem lastF_upto {p : Nat → Bool} {rs : Nat → AV} {x0 : AV} {j : Nat} : ∀ {n : Nat}, j ≤ n → (∀ i, j ≤ i → i < n → p i = false) → lastF p rs x0 n = lastF p rs x0 j
  | 0, hj, _ => by rw [show j = 0 by omega]
  | n + 1, hj, h => by
    rcases Nat.lt_or_ge n j with h1 | h1
    · rw [show j = n + 1 by omega]
    · simp only [lastF, h n h1 (by omega), Bool.false_eq_true, if_false]
      exact lastF_upto h1 fun i h2 h3 => h i h2 (by omega)

/-- the box that an operation of the second round grows -/
def cOf (ops : Array Oper) (e2 : Nat → Env) (k : Nat) : Option Nat :=
  match ops[k]? with
  | none => none
  | some o => if hoist o.op then none else if wantA ops (e2 k) o = some true then (apO (e2 k) o.op).bind apB else none

theorem cOf_spec {ops : Array Oper} {e2 : Nat → Env} {k b : Nat} (h : cOf ops e2 k = some b) : ∃ o, ops[k]? = some o ∧ hoist o.op = false ∧ noApp o.op = false ∧ wantA ops (e2 k) o = some true ∧ ∃ x, apO (e2 k) o.op = some x ∧ apB x = some b := by
  unfold cOf at h
  split at h
  · simp at h
  · rename_i o ho
    split at h
    · simp at h
    · rename_i hh
      split at h
      · rename_i hw
        rw [Option.bind_eq_some_iff] at h
        obtain ⟨x, hx, hb⟩ := h
        refine ⟨o, ho, by simpa using hh, ?_, hw, x, hx, hb⟩
        generalize o.op = op at hx
        cases op <;> try (simp [apO] at hx; done)
        rename_i c
        obtain ⟨callee, args, argTypes⟩ := c
        cases callee <;> try (simp [apO] at hx; done)
        rename_i b
        cases b <;> first | (simp [apO] at hx; done) | rfl
      · simp at h

theorem apO_no {env : Env} {op : Op} (h : noApp op = true) : apO env op = none := by
  cases op <;> try rfl
  rename_i c
  obtain ⟨callee, args, argTypes⟩ := c
  cases callee <;> try rfl
  rename_i b
  cases b <;> first | rfl | (simp [noApp] at h; done)

/-- what the two rounds over a region's operations tell: first what is made ahead of the rest, then the rest -/
structure Two (P : Program) (md : FuncId → Md) (E : FnA) (N n0 : Nat) (ops : Array Oper) (env : Env) (bx : Bx) (env' : Env) (bx' : Bx) (e2 : Nat → Env) (b1 b2 : Nat → Bx) (rs : Nat → AV) : Prop where
  ext : ∃ x : Bx, b2 0 = bx ++ x
  hz : ∀ (i : Nat) (o : Oper), ops[i]? = some o → hoist o.op = true → ∃ e en1, evOp P md E n0 e (b1 i) o.op = some (rs i, en1, b1 (i + 1))
  ge : ∀ i, i < ops.size → bx.length ≤ (b1 i).length
  idz : ∀ (i : Nat) (o : Oper) (z : List AV), ops[i]? = some o → hoist o.op = true → b1 (i + 1) = b1 i ++ [z] → (b2 0)[(b1 i).length]? = some z
  idne : ∀ (i k : Nat) (o o' : Oper), ops[i]? = some o → hoist o.op = true → ops[k]? = some o' → hoist o'.op = true → i ≠ k → (b1 i).length ≠ (b1 k).length
  st : ∀ (i : Nat) (o : Oper), ops[i]? = some o → StepR P md E N n0 (fun o => !hoist o) ops o (e2 i) (b2 i) (rs i) (e2 (i + 1)) (b2 (i + 1)) ∨ (hoist o.op = true ∧ e2 (i + 1) = e2 i ∧ b2 (i + 1) = b2 i)
  get : ∀ (t j : Nat), j ≤ ops.size → Sy.get (e2 j) t = (lastF (fun k => !hOf ops k && (dstOf ops k == some t)) rs (lastF (fun k => hOf ops k && (dstOf ops k == some t)) rs (Sy.get env t) ops.size) j).keep (hit (fun k => !hOf ops k && (dstOf ops k == some t)) (cOf ops e2) j)
  fin : e2 ops.size = env' ∧ b2 ops.size = bx'
  dlt : ∀ i d, dstOf ops i = some d → d < N
  ap : ∀ (i1 i2 : Nat) (o1 o2 : Oper), i1 < i2 → ops[i1]? = some o1 → ops[i2]? = some o2 → hoist o1.op = false → hoist o2.op = false → (∀ s x, adr md (e2 i1) (b2 i1) o1.op = some (s, x) → okD ops i2 (adr md (e2 i2) (b2 i2) o2.op) (i1, s, x) = true) ∧ okF ops i2 (entF ops (e2 i2) o2 (rs i2)) (i1, entF ops (e2 i1) o1 (rs i1)) = true

theorem put_lt {d : Option Nat} {x : AV} {env env' : Env} (h : put N d x env = some env') {t : Nat} (ht : d = some t) : t < N := by
  subst ht
  simp only [put] at h
  split at h
  · assumption
  · simp at h

theorem step_lt {sel : Op → Bool} {o : Oper} {e e' : Env} {b b' : Bx} {r : AV} (h : StepR P md E N n0 sel ops o e b r e' b') (hs : sel o.op = true) {t : Nat} (ht : o.dst = some t) : t < N := by
  unfold StepR at h
  rw [if_pos hs] at h
  rcases h with ⟨_, en1, h1, h2⟩ | ⟨_, _, h2, _⟩ <;> exact put_lt h2 ht

theorem two (D : DrawOk P md ops) {env env' : Env} {bx bx' : Bx} (h : evReg P md E N n0 ops true env bx = some (env', bx')) : ∃ e2 b1 b2 rs, Two P md E N n0 ops env bx env' bx' e2 b1 b2 rs := by
  simp only [evReg, if_true, Option.bind_eq_some_iff] at h
  obtain ⟨⟨envm, bxm⟩, h1, h2⟩ := h
  obtain ⟨e1, b1, r1, p1, p2, p3, p4, p5⟩ := trace _ h1
  obtain ⟨e2, b2, r2, q1, q2, q3, q4, q5, -, q7⟩ := traceD _ h2
  simp only [Array.length_toList, Array.getElem?_toList, Nat.zero_add] at p3 p4 p5 q3 q4 q5 q7
  have hof : ∀ (i : Nat) (o : Oper), ops[i]? = some o → hOf ops i = hoist o.op := fun i o ho => by simp [hOf, ho]
  -- the first round, step by step
  have s1 : ∀ (i : Nat) (o : Oper), ops[i]? = some o → hoist o.op = true → ∃ z, evOp P md E n0 (e1 i) (b1 i) o.op = some (r1 i, e1 i, b1 (i + 1)) ∧ b1 (i + 1) = b1 i ++ [z] := by
    intro i o ho hh
    have hs := p5 i o ho
    unfold StepR at hs
    rw [if_pos hh] at hs
    have hg := D.kind i o ho
    rw [if_pos hh] at hg
    rcases hs with ⟨_, en1, g1, _⟩ | ⟨g1, _⟩
    · obtain ⟨rfl, z, g2, _⟩ := hoist_ok hh g1
      exact ⟨z, g1, g2⟩
    · simp [wantA, hg] at g1
  have s1' : ∀ (i : Nat) (o : Oper), ops[i]? = some o → hoist o.op = false → b1 (i + 1) = b1 i := by
    intro i o ho hh
    have hs := p5 i o ho
    unfold StepR at hs
    rw [if_neg (by simp [hh])] at hs
    exact hs.2
  have mono : ∀ j i, i ≤ j → j ≤ ops.size → ∃ x : Bx, b1 j = b1 i ++ x := by
    intro j
    induction j with
    | zero => intro i hi _; exact ⟨[], by rw [show i = 0 by omega]; simp⟩
    | succ j ih =>
      intro i hi hj
      rcases Nat.lt_or_ge j i with h1 | h1
      · exact ⟨[], by rw [show i = j + 1 by omega]; simp⟩
      · obtain ⟨x, hx⟩ := ih i h1 (by omega)
        have ho : ops[j]? = some ops[j] := Array.getElem?_eq_getElem (by omega)
        cases hh : hoist ops[j].op
        · exact ⟨x, by rw [s1' j _ ho hh, hx]⟩
        · obtain ⟨z, _, hz⟩ := s1 j _ ho hh
          exact ⟨x ++ [z], by rw [hz, hx, List.append_assoc]⟩
  have lts : ∀ (i : Nat) (o : Oper), ops[i]? = some o → i < ops.size := fun i o ho => (Array.getElem?_eq_some_iff.mp ho).1
  have idlt : ∀ (i k : Nat) (o o' : Oper), ops[i]? = some o → hoist o.op = true → ops[k]? = some o' → hoist o'.op = true → i < k → (b1 i).length < (b1 k).length := by
    intro i k o o' ho hh ho' _ hik
    obtain ⟨z, _, hz⟩ := s1 i o ho hh
    obtain ⟨x, hx⟩ := mono k (i + 1) hik (by have := lts k o' ho'; omega)
    rw [hx, hz]; simp
  have hb20 : b2 0 = b1 ops.size := by rw [q2, p4]
  refine ⟨e2, b1, b2, fun i => if hOf ops i then r1 i else r2 i, ?_, ?_, ?_, ?_, ?_, ?_, ?_, ⟨q3, q4⟩, ?_, ?_⟩
  · obtain ⟨x, hx⟩ := mono ops.size 0 (Nat.zero_le _) (Nat.le_refl _)
    exact ⟨x, by rw [hb20, hx, p2]⟩
  · intro i o ho hh
    obtain ⟨z, g1, _⟩ := s1 i o ho hh
    exact ⟨e1 i, e1 i, by simp only [hof i o ho, hh, if_true]; exact g1⟩
  · intro i hi
    obtain ⟨x, hx⟩ := mono i 0 (Nat.zero_le _) (by omega)
    rw [hx, p2]; simp
  · intro i o z ho hh hz
    obtain ⟨x, hx⟩ := mono ops.size (i + 1) (lts i o ho) (Nat.le_refl _)
    rw [hb20, hx, hz]; simp
  · intro i k o o' ho hh ho' hh' hik
    rcases Nat.lt_or_ge i k with h3 | h3
    · have := idlt i k o o' ho hh ho' hh' h3; omega
    · have := idlt k i o' o ho' hh' ho hh (by omega); omega
  · intro i o ho
    have hs := q5 i o ho
    cases hh : hoist o.op
    · left
      simp only [hof i o ho, hh, Bool.false_eq_true, if_false]
      exact hs
    · right
      unfold StepR at hs
      rw [if_neg (by simp [hh])] at hs
      exact ⟨rfl, hs⟩
  · intro t j hj
    have g1 := trace_get (sel := hoist) (ops := ops) (b := b1) p5 (fun i o en1 ho hh g => (hoist_ok hh g).1) t ops.size (Nat.le_refl _)
    have g2 := trace_getc (sel := fun o => !hoist o) (ops := ops) (b := b2) (c := cOf ops e2) q5 (fun i o en1 ho hh hw g => by
      have hh' : hoist o.op = false := by simpa using hh
      have hk := D.kind i o ho
      rw [if_neg (by simpa using hh)] at hk
      cases hna : noApp o.op
      · obtain ⟨x, hx, _, h3, _⟩ := ap_spec g hna
        have hc : cOf ops e2 i = apB x := by
          unfold cOf
          rw [ho]
          simp only [hh', Bool.false_eq_true, if_false]
          rw [if_pos hw, hx, Option.bind_some]
        rw [hc]
        exact h3
      · have hc : cOf ops e2 i = none := by
          unfold cOf
          rw [ho]
          simp only [hh', Bool.false_eq_true, if_false]
          rw [if_pos hw, apO_no hna, Option.bind_none]
        rw [hc, (ev1 hk hna g).1]
        exact fun t => (keep_all _).symm) (fun i o ho h => by
      unfold cOf
      rw [ho]
      simp only
      split
      · rfl
      · rename_i hh
        rw [if_neg]
        rcases h with h | h
        · exact absurd (by simpa using h) hh
        · rw [h]; simp) t j hj
    rw [g2, q1, ← p3, g1, p1]
    have m1 : ∀ (k : Nat), k < ops.size → selOf hoist ops k = hOf ops k := fun k hk => rfl
    have m2 : ∀ (k : Nat), k < ops.size → selOf (fun o => !hoist o) ops k = !hOf ops k := by
      intro k hk
      simp [selOf, hOf, Array.getElem?_eq_getElem hk]
    have in1 : lastF (fun k => selOf hoist ops k && (dstOf ops k == some t)) r1 (Sy.get env t) ops.size = lastF (fun k => hOf ops k && (dstOf ops k == some t)) (fun i => if hOf ops i = true then r1 i else r2 i) (Sy.get env t) ops.size :=
      lastF_congr2 fun i hi hp => by
        simp only [Bool.and_eq_true, m1 i hi] at hp
        simp [hp.1]
    rw [in1]
    have in2 : ∀ x0 : AV, lastF (fun k => selOf (fun o => !hoist o) ops k && (dstOf ops k == some t)) r2 x0 j = lastF (fun k => !hOf ops k && (dstOf ops k == some t)) (fun i => if hOf ops i = true then r1 i else r2 i) x0 j := fun x0 =>
      Eq.trans (lastF_congr (p' := fun k => !hOf ops k && (dstOf ops k == some t)) fun i hi => by rw [m2 i (by omega)]) (lastF_congr2 fun i _ hp => by
        simp only [Bool.and_eq_true, Bool.not_eq_true'] at hp
        simp [hp.1])
    have in3 : hit (fun k => selOf (fun o => !hoist o) ops k && (dstOf ops k == some t)) (cOf ops e2) j = hit (fun k => !hOf ops k && (dstOf ops k == some t)) (cOf ops e2) j := by
      funext b
      rw [Bool.eq_iff_iff, hit_spec, hit_spec]
      refine ⟨fun h k hk hc => ?_, fun h k hk hc => ?_⟩
      · obtain ⟨k', g1, g2, g3⟩ := h k hk hc
        rw [m2 k' (by omega)] at g3
        exact ⟨k', g1, g2, g3⟩
      · obtain ⟨k', g1, g2, g3⟩ := h k hk hc
        exact ⟨k', g1, g2, by rw [m2 k' (by omega)]; exact g3⟩
    rw [in2, in3]
  · intro i d hd
    cases ho : ops[i]? with
    | none => simp [dstOf, ho] at hd
    | some o =>
      have hd' : o.dst = some d := by simpa [dstOf, ho] using hd
      cases hh : hoist o.op
      · exact step_lt (q5 i o ho) (by simp [hh]) hd'
      · exact step_lt (p5 i o ho) hh hd'
  · intro i1 i2 o1 o2 hlt ho1 ho2 hh1 hh2
    have := q7 i1 i2 o1 o2 hlt ho1 ho2 hh1 hh2
    refine ⟨this.1, ?_⟩
    simp only [hof i1 o1 ho1, hof i2 o2 ho2, hh1, hh2, Bool.false_eq_true, if_false]
    exact this.2

section
variable {env env' : Env} {bx bx' : Bx} {e2 : Nat → Env} {b1 b2 : Nat → Bx} {rs : Nat → AV}

theorem Two.same (D : DrawOk P md ops) (T : Two P md E N n0 ops env bx env' bx' e2 b1 b2 rs) {j1 : Nat} : ∀ {j2 : Nat}, j1 ≤ j2 → j2 ≤ ops.size →
    (∀ (k : Nat) (o : Oper), j1 ≤ k → k < j2 → ops[k]? = some o → mcl P md o.op ≠ 2) → b2 j1 = b2 j2
  | 0, h, _, _ => by rw [show j1 = 0 by omega]
  | j2 + 1, h, hn, hc => by
    rcases Nat.lt_or_ge j2 j1 with h1 | h1
    · rw [show j1 = j2 + 1 by omega]
    · rw [Two.same D T h1 (by omega) fun k o hk hk2 ho => hc k o hk (by omega) ho]
      have ho : ops[j2]? = some ops[j2] := Array.getElem?_eq_getElem (by omega)
      rcases T.st j2 _ ho with hs | hs
      · unfold StepR at hs
        split at hs
        · rename_i hsel
          have hk := D.kind j2 _ ho
          rw [if_neg (by simpa using hsel)] at hk
          rcases hs with ⟨_, en1, g1, _⟩ | ⟨_, _, _, g⟩
          · refine ((ev1 hk ?_ g1).2.2 (hc j2 _ h1 (by omega) ho)).symm
            cases hna : noApp ops[j2].op
            · exact absurd (app_mcl (P := P) (md := md) hna).1 (hc j2 _ h1 (by omega) ho)
            · rfl
          · exact g.symm
        · exact hs.2.symm
      · exact hs.2.2.symm

theorem isSt_cases {op : Op} (h : isSt md op = true) : (∃ t a x, op = .store t a x) ∨ isMk md op = true ∨ noApp op = false ∨ ∃ f as ts, op = .call ⟨.value (.func f), as, ts⟩ ∧ (md f = .objT ∨ md f = .objK) := by
  cases op <;> simp_all [isSt, isMk, isOb]
  rename_i c
  obtain ⟨callee, as, ts⟩ := c
  cases callee <;> simp_all
  rename_i g
  cases g <;> simp_all
  rcases h with (h | h) | h
  · exact .inl h
  · exact .inr (.inl h)
  · exact .inr (.inr h)
theorem mk_new {env env' : Env} {bx bx' : Bx} {op : Op} {r : AV} (h : isMk md op = true) (hv : evOp P md E n0 env bx op = some (r, env', bx')) : (∃ z, bx' = bx ++ [z]) ∧ adr md env bx op = some (true, .bp bx.length 0) := by
  cases op <;> simp [isMk] at h
  case box t x =>
    simp only [evOp, h, Bool.false_eq_true, if_false] at hv
    split at hv
    · simp at hv
    · simp only [Option.some.injEq, Prod.mk.injEq] at hv
      obtain ⟨rfl, rfl, rfl⟩ := hv
      exact ⟨⟨_, rfl⟩, rfl⟩
  case buildSlice t n parts =>
    simp only [evOp, h, Bool.false_eq_true, if_false, Option.map_eq_some_iff, Prod.mk.injEq] at hv
    obtain ⟨⟨r0, b0⟩, hr, rfl, rfl, rfl⟩ := hv
    refine ⟨?_, by simp [adr, h]⟩
    obtain ⟨r1, hr⟩ : ∃ r1, buildSliceA P bx t n (parts.toList.map fun p => (p.1, opnd env p.2)) = some (r1, b0) := by
      unfold buildSliceM at hr
      split at hr
      · unfold buildSliceG at hr
        rw [Option.map_eq_some_iff] at hr
        obtain ⟨⟨r2, b2⟩, h0, h1⟩ := hr
        unfold toG at h1
        refine ⟨r2, ?_⟩
        rw [h0]
        have : b2 = b0 := by
          split at h1
          · split at h1
            · simp only [Prod.mk.injEq] at h1; exact h1.2
            · simp only [Prod.mk.injEq] at h1; exact h1.2
          · simp only [Prod.mk.injEq] at h1; exact h1.2
        rw [this]
      · exact ⟨_, hr⟩
    unfold buildSliceA at hr
    split at hr
    · simp only [Option.bind_eq_some_iff] at hr
      obtain ⟨e, _, sz, _, z, _, hr⟩ := hr
      split at hr
      · simp at hr
      · simp only [Option.map_eq_some_iff, newBox, Prod.mk.injEq] at hr
        obtain ⟨cs, _, _, rfl⟩ := hr
        exact ⟨cs, rfl⟩
    · simp at hr
  case call c =>
    obtain ⟨callee, as, ts⟩ := c
    cases callee <;> simp at h
    rename_i g
    cases g <;> simp at h
    rename_i f
    simp only [evOp, opnd, mdG_func, callA, h, Option.map_eq_some_iff, Prod.mk.injEq, Option.bind_eq_some_iff] at hv
    obtain ⟨⟨r0, b0⟩, ⟨r1, _, hr⟩, rfl, rfl, rfl⟩ := hv
    split at hr
    · simp only [Option.some.injEq, Prod.mk.injEq] at hr
      obtain ⟨_, rfl⟩ := hr
      exact ⟨⟨_, rfl⟩, by simp [adr, h]⟩
    · simp at hr
theorem isLd_cases {op : Op} (h : isLd md op = true) : ((∃ t a, op = .load t a) ∨ ∃ t a i ok, op = .lookup t a i ok) ∨ (∃ f as ts, op = .call ⟨.value (.func f), as, ts⟩ ∧ md f = .frozen) ∨ ∃ s t x, op = .convert s t x := by
  cases op <;> try (simp [isLd] at h; done)
  case load t a => exact .inl (.inl ⟨_, _, rfl⟩)
  case lookup t a i ok => exact .inl (.inr ⟨_, _, _, _, rfl⟩)
  case call c =>
    obtain ⟨callee, as, ts⟩ := c
    cases callee <;> try (simp [isLd] at h; done)
    rename_i g
    cases g <;> try (simp [isLd] at h; done)
    exact .inr (.inl ⟨_, _, _, rfl, by simpa [isLd] using h⟩)
  case convert s t x => exact .inr (.inr ⟨_, _, _, rfl⟩)

theorem load_apart {t : Rd} {t' : TypeId} {b b' : Bx} {a x y : AV} (hs : storeA P t' b a x = some b') (hap : apartV a y = true) : rdA P b' t y = rdA P b t y := by
  unfold storeA at hs
  split at hs
  · rename_i c off n hsz
    rw [Option.bind_eq_some_iff] at hs
    obtain ⟨l, h1, h2⟩ := hs
    split at h2
    · simp only [Option.some.injEq] at h2
      subst h2
      cases y with
      | bp c' off' =>
        have hne : c ≠ c' := by simpa [apartV] using hap
        cases t with
        | ld t => simp only [rdA, loadA, List.getElem?_set_ne hne]
        | lk t i ok => rfl
      | mp c' =>
        have hne : c ≠ c' := by simpa [apartV] using hap
        cases t with
        | ld t => rfl
        | lk t i ok => simp only [rdA, lookA, List.getElem?_set_ne hne]
      | gp c' o m =>
        have hne : c ≠ c' := by simpa [apartV] using hap
        cases t with
        | ld t => simp only [rdA, loadA, List.getElem?_set_ne hne]
        | lk t i ok => rfl
      | ip l' _ => cases t <;> rfl
      | v _ => exact rd_v _ _ _
      | _ => simp [apartV] at hap
    · simp at h2
  · simp at hs

/-- a 'load' sees the same ahead of stores that lie apart from it, and behind them, but for boxes that 'append' grows -/
theorem Two.seen (D : DrawOk P md ops) (T : Two P md E N n0 ops env bx env' bx' e2 b1 b2 rs) {t : Rd} {y : AV} {j1 : Nat} : ∀ {j2 : Nat}, j1 ≤ j2 → j2 ≤ ops.size →
    (∀ (k : Nat) (o : Oper), j1 ≤ k → k < j2 → ops[k]? = some o → mcl P md o.op = 2 → isSt md o.op = true ∧ ∀ x, adr md (e2 k) (b2 k) o.op = some (true, x) → apartV x y = true) →
    ∃ q : Nat → Bool, (∀ b, q b = false → ∃ k, j1 ≤ k ∧ k < j2 ∧ cOf ops e2 k = some b) ∧ rdA P (b2 j2) t y = (rdA P (b2 j1) t y).map (AV.keep q)
  | j2, h, hn, hc => by
    have same : ∀ (o : Option AV), o = o.map (AV.keep fun _ => true) := by
      intro o
      cases o with
      | none => rfl
      | some z => rw [Option.map_some, keep_all]
    rcases Nat.lt_or_ge j1 j2 with h1 | h1
    case inr => exact ⟨fun _ => true, by simp, by rw [show j1 = j2 by omega]; exact same _⟩
    obtain ⟨j, rfl⟩ : ∃ j, j2 = j + 1 := ⟨j2 - 1, by omega⟩
    obtain ⟨q, hq, ih⟩ := Two.seen D T (t := t) (y := y) (j1 := j1) (j2 := j) (by omega) (by omega) fun k o hk hk2 ho => hc k o hk (by omega) ho
    have ho : ops[j]? = some ops[j] := Array.getElem?_eq_getElem (by omega)
    have plain : rdA P (b2 (j + 1)) t y = rdA P (b2 j) t y → ∃ q : Nat → Bool, (∀ b, q b = false → ∃ k, j1 ≤ k ∧ k < j + 1 ∧ cOf ops e2 k = some b) ∧ rdA P (b2 (j + 1)) t y = (rdA P (b2 j1) t y).map (AV.keep q) :=
      fun h => ⟨q, fun b hb => let ⟨k, g1, g2, g3⟩ := hq b hb; ⟨k, g1, by omega, g3⟩, by rw [h, ih]⟩
    by_cases h2 : mcl P md ops[j].op = 2
    · obtain ⟨hst, hap⟩ := hc j _ (by omega) (by omega) ho h2
      rcases T.st j _ ho with hs | hs
      · unfold StepR at hs
        split at hs
        · rename_i hsel
          rcases hs with ⟨hw, en1, g1, _⟩ | ⟨_, _, _, g⟩
          · rcases isSt_cases hst with ⟨t', a, x, he⟩ | hmk | hna | ⟨f, as, ts, he, hmd⟩
            rotate_right
            · refine plain ?_
              have := hap .ns (by rw [he]; simp [adr, hmd])
              cases y <;> first | exact rd_v _ _ _ | (cases t <;> rfl) | (simp [apartV] at this; done)
            · refine plain ?_
              rw [he] at g1 hap
              simp only [evOp, Option.map_eq_some_iff, Prod.mk.injEq] at g1
              obtain ⟨b', g1, _, _, rfl⟩ := g1
              exact load_apart g1 (hap _ rfl)
            · refine plain ?_
              obtain ⟨⟨z, hz⟩, ha⟩ := mk_new hmk g1
              rw [hz]
              exact rd_new (hap _ ha)
            · obtain ⟨x, hx, ha, _, hl⟩ := ap_spec g1 hna
              obtain ⟨q', hq', hl⟩ := hl t y (hap _ ha)
              refine ⟨fun b => q b && q' b, fun b hb => ?_, ?_⟩
              · simp only [Bool.and_eq_false_iff] at hb
                rcases hb with hb | hb
                · obtain ⟨k, g1, g2, g3⟩ := hq b hb
                  exact ⟨k, g1, by omega, g3⟩
                · refine ⟨j, by omega, by omega, ?_⟩
                  unfold cOf
                  rw [ho]
                  simp only
                  rw [if_neg (by simpa using hsel), if_pos hw, hx]
                  exact hq' b hb
              · rw [hl, ih, Option.map_map]
                congr 1
                funext z
                exact keep_keep _ _ z
          · exact plain (by rw [g])
        · exact plain (by rw [hs.2])
      · exact plain (by rw [hs.2.2])
    · refine plain ?_
      rw [Two.same D T (j1 := j) (j2 := j + 1) (by omega) hn fun k o hk hk2 hok => by
        have : k = j := by omega
        subst this
        rw [ho] at hok
        simp only [Option.some.injEq] at hok
        subst hok
        exact h2]
termination_by j2 => j2

/-- what makes boxes leaves the others -/
theorem Two.kept (D : DrawOk P md ops) (T : Two P md E N n0 ops env bx env' bx' e2 b1 b2 rs) {x : Nat} {z : List AV} : ∀ {j : Nat}, j ≤ ops.size →
    (∀ (k : Nat) (o : Oper), k < j → ops[k]? = some o → mcl P md o.op = 2 → isMk md o.op = true) → (b2 0)[x]? = some z → (b2 j)[x]? = some z
  | 0, _, _, h => h
  | j + 1, hj, hc, h => by
    have h1 : (b2 j)[x]? = some z := Two.kept D T (j := j) (by omega) (fun k o hk ho => hc k o (by omega) ho) h
    have ho : ops[j]? = some ops[j] := Array.getElem?_eq_getElem (by omega)
    by_cases h2 : mcl P md ops[j].op = 2
    · rcases T.st j _ ho with hs | hs
      · unfold StepR at hs
        split at hs
        · rcases hs with ⟨_, en1, g1, _⟩ | ⟨_, _, _, g⟩
          · obtain ⟨⟨w, hw⟩, _⟩ := mk_new (hc j _ (by omega) ho h2) g1
            rw [hw, List.getElem?_append_left (List.getElem?_eq_some_iff.mp h1).1]
            exact h1
          · rw [g]; exact h1
        · rw [hs.2]; exact h1
      · rw [hs.2.2]; exact h1
    · rw [← Two.same D T (j1 := j) (j2 := j + 1) (by omega) hj fun k o hk hk2 hok => by
        have : k = j := by omega
        subst this
        rw [ho] at hok
        simp only [Option.some.injEq] at hok
        subst hok
        exact h2]
      exact h1

theorem Two.agree0 (D : DrawOk P md ops) (T : Two P md E N n0 ops env bx env' bx' e2 b1 b2 rs) {L : Nat → Bool} {i t : Nat} (hi : i ≤ ops.size)
    (h1 : ∀ k, k < ops.size → dstOf ops k = some t → (L k = true ↔ k < i)) (h2 : ∀ k, k < ops.size → hOf ops k = true → dstOf ops k = some t → k < i) :
    lastF (fun k => L k && (dstOf ops k == some t)) rs (Sy.get env t) ops.size = lastF (fun k => !hOf ops k && (dstOf ops k == some t)) rs (lastF (fun k => hOf ops k && (dstOf ops k == some t)) rs (Sy.get env t) ops.size) i := by
  by_cases hx : ∃ k, k < ops.size ∧ hOf ops k = true ∧ dstOf ops k = some t
  · obtain ⟨k, hk, hh, hd⟩ := hx
    have ho : ops[k]? = some ops[k] := Array.getElem?_eq_getElem hk
    have hh' : hoist ops[k].op = true := by simpa [hOf, ho] using hh
    have hd' : ops[k].dst = some t := by simpa [dstOf, ho] using hd
    have only : ∀ k', k' < ops.size → dstOf ops k' = some t → k' = k := by
      intro k' hk' hdk
      have ho' : ops[k']? = some ops[k'] := Array.getElem?_eq_getElem hk'
      have hdk' : ops[k'].dst = some t := by simpa [dstOf, ho'] using hdk
      rcases Nat.lt_trichotomy k' k with h | h | h
      · have := D.h1 k' k _ _ h ho' ho hh' t hd'
        simp [touches, hdk'] at this
      · exact h
      · exact absurd hdk' (D.h2 k k' _ _ h ho ho' hh' t hd')
    rw [lastF_last (j := k) hk (by simp [hd, (h1 k hk hd).mpr (h2 k hk hh hd)]) fun k' h3 h4 => by
      cases hq : dstOf ops k' == some t
      · simp
      · have := only k' h4 (by simpa using hq); omega]
    rw [lastF_none (n := i) fun k' hk' => by
      cases hq : dstOf ops k' == some t
      · simp
      · have := only k' (by omega) (by simpa using hq)
        subst this
        simp [hh]]
    rw [lastF_last (j := k) hk (by simp [hd, hh]) fun k' h3 h4 => by
      cases hq : dstOf ops k' == some t
      · simp
      · have := only k' h4 (by simpa using hq); omega]
  · have hno : ∀ k, k < ops.size → dstOf ops k = some t → hOf ops k = false := by
      intro k hk hd
      cases hh : hOf ops k
      · rfl
      · exact absurd ⟨k, hk, hh, hd⟩ hx
    rw [lastF_none (p := fun k => hOf ops k && (dstOf ops k == some t)) fun k hk => by
      cases hq : dstOf ops k == some t
      · simp
      · simp [hno k hk (by simpa using hq)]]
    rw [lastF_upto hi fun k hk hk2 => by
      cases hq : dstOf ops k == some t
      · simp
      · have := h1 k hk2 (by simpa using hq)
        cases hL : L k
        · simp
        · have := this.mp hL; omega]
    exact lastF_congr fun k hk => by
      cases hq : dstOf ops k == some t
      · simp
      · have hq' : dstOf ops k = some t := by simpa using hq
        simp [hno k (by omega) hq', (h1 k (by omega) hq').mpr hk]

/-- what a slot holds when the operations in 'L' are done -/
def valL (ops : Array Oper) (e2 : Nat → Env) (rs : Nat → AV) (env : Env) (L : Nat → Bool) (t : Nat) : AV :=
  (lastF (fun k => L k && (dstOf ops k == some t)) rs (Sy.get env t) ops.size).keep (hit (fun k => L k && (dstOf ops k == some t)) (fun k => if L k then cOf ops e2 k else none) ops.size)

theorem Two.agree (D : DrawOk P md ops) (T : Two P md E N n0 ops env bx env' bx' e2 b1 b2 rs) {L : Nat → Bool} {i t : Nat} (hi : i ≤ ops.size)
    (h1 : ∀ k, k < ops.size → dstOf ops k = some t → (L k = true ↔ k < i)) (h2 : ∀ k, k < ops.size → hOf ops k = true → dstOf ops k = some t → k < i)
    (h3 : ∀ k b, k < ops.size → cOf ops e2 k = some b → (L k = true ↔ k < i) ∨ (Sy.get (e2 i) t).free b = true) :
    valL ops e2 rs env L t = Sy.get (e2 i) t := by
  have hg := T.get t i hi
  unfold valL
  rw [T.agree0 D hi h1 h2, hg]
  refine keep_cong _ _ _ fun b => ?_
  by_cases hf : (Sy.get (e2 i) t).free b = true
  · rw [hg] at hf
    exact .inr (.inr hf)
  · left
    have h3' : ∀ k, k < ops.size → cOf ops e2 k = some b → (L k = true ↔ k < i) := fun k hk hc => (h3 k b hk hc).resolve_right hf
    rw [Bool.eq_iff_iff, hit_spec, hit_spec]
    constructor
    · intro h k hk hc
      have hLk := (h3' k (by omega) hc).2 hk
      obtain ⟨k', g1, g2, g3⟩ := h k (by omega) (by rw [if_pos hLk]; exact hc)
      simp only [Bool.and_eq_true, beq_iff_eq] at g3
      have hk' : k' < i := (h1 k' g2 g3.2).1 g3.1
      refine ⟨k', g1, hk', ?_⟩
      simp only [Bool.and_eq_true, beq_iff_eq, Bool.not_eq_true']
      refine ⟨?_, g3.2⟩
      obtain ⟨o, ho, hh, hna, _⟩ := cOf_spec hc
      rcases Nat.lt_or_ge k k' with hlt | hge
      · have ho' : ops[k']? = some ops[k'] := Array.getElem?_eq_getElem g2
        rcases D.w3 k k' o _ hlt ho ho' (app_mcl (P := P) (md := md) hna).1 with h | h
        · simpa [hOf, ho'] using h
        · rw [(app_mcl (P := P) (md := md) hna).2.2.1] at h
          simp at h
      · obtain rfl : k = k' := by omega
        simpa [hOf, ho] using hh
    · intro h k hk hc
      split at hc
      · rename_i hLk
        have hki := (h3' k hk hc).1 hLk
        obtain ⟨k', g1, g2, g3⟩ := h k hki hc
        simp only [Bool.and_eq_true, beq_iff_eq, Bool.not_eq_true'] at g3
        refine ⟨k', g1, by omega, ?_⟩
        simp only [Bool.and_eq_true, beq_iff_eq]
        exact ⟨(h1 k' (by omega) g3.2).2 g2, g3.2⟩
      · simp at hc

/-- what an operation that has no order with an 'append' looks at, and yields, is free of that box -/
theorem Two.unbound (T : Two P md E N n0 ops env bx env' bx' e2 b1 b2 rs) {i k b : Nat} {o : Oper} (ho : ops[i]? = some o) (hh : hoist o.op = false) (hc : cOf ops e2 k = some b)
    (hne : i ≠ k) (h1 : k < i → (((Region.before ops).getD i 0).testBit k) = false) (h2 : i < k → (((Region.before ops).getD k 0).testBit i) = false) :
    (rs i).free b = true ∧ ∀ t ∈ o.looksAt ops, (Sy.get (e2 i) t).free b = true := by
  obtain ⟨o', ho', hh', _, _, x, hx, hb⟩ := cOf_spec hc
  have key : (entF ops (e2 i) o (rs i)).2.all (freeA x) = true := by
    rcases Nat.lt_or_ge k i with h | h
    · have := (T.ap k i o' o h ho' ho hh' hh).2
      unfold okF at this
      have e1 : (entF ops (e2 k) o' (rs k)).1 = some x := hx
      simp only [e1] at this
      split at this
      · rename_i h1 h2; simp at h2
      · rename_i h1 h2; simp at h2
      · rename_i a h1' h2'
        simp only [Option.some.injEq] at h2'
        subst h2'
        rw [h1 h, Bool.false_or] at this
        exact this
      · rename_i a a' h1' h2'
        simp only [Option.some.injEq] at h2'
        subst h2'
        rw [h1 h, Bool.false_or, Bool.and_eq_true] at this
        exact this.2
    · have hlt : i < k := by omega
      have := (T.ap i k o o' hlt ho ho' hh hh').2
      unfold okF at this
      have e1 : (entF ops (e2 k) o' (rs k)).1 = some x := hx
      simp only [e1] at this
      split at this
      · rename_i h1 h2; simp at h1
      · rename_i a h1' h2'
        simp only [Option.some.injEq] at h1'
        subst h1'
        rw [h2 hlt, Bool.false_or] at this
        exact this
      · rename_i h1 h2; simp at h1
      · rename_i a a' h1' h2'
        simp only [Option.some.injEq] at h1'
        subst h1'
        rw [h2 hlt, Bool.false_or, Bool.and_eq_true] at this
        exact this.1
  rw [List.all_eq_true] at key
  have fr : ∀ v, freeA x v = true → v.free b = true := by
    intro v hv
    unfold freeA at hv
    rw [hb] at hv
    exact hv
  refine ⟨fr _ (key _ ?_), fun t ht => fr _ (key _ ?_)⟩
  · simp [entF]
  · simp only [entF, List.mem_append, List.mem_map]
    exact .inl ⟨t, ht, rfl⟩
end
end
end Go.Sy
