/-
  The reader's regions that draw their order, against the machine's: whatever order is drawn, the reader's answer is the same.
-/
import Derived.Test.YtmkdhgigghgieaaSyOrd
namespace Go.Sy

/-! ## the last one that counts -/
def lastF (p : Nat → Bool) (rs : Nat → AV) (x0 : AV) : Nat → AV
  | 0 => x0
  | n + 1 => if p n then rs n else lastF p rs x0 n

theorem lastF_congr {p p' : Nat → Bool} {rs : Nat → AV} {x0 : AV} : ∀ {n : Nat}, (∀ i, i < n → p i = p' i) → lastF p rs x0 n = lastF p' rs x0 n
  | 0, _ => rfl
  | n + 1, h => by simp only [lastF, h n (by omega), lastF_congr (n := n) (fun i hi => h i (by omega))]

theorem lastF_last {p : Nat → Bool} {rs : Nat → AV} {x0 : AV} {j : Nat} : ∀ {n : Nat}, j < n → p j = true → (∀ i, j < i → i < n → p i = false) → lastF p rs x0 n = rs j
  | 0, h, _, _ => by omega
  | n + 1, h, hp, hn => by
    simp only [lastF]
    rcases Nat.lt_or_ge j n with hj | hj
    · rw [hn n hj (by omega)]
      simp only [Bool.false_eq_true, if_false]
      exact lastF_last hj hp fun i h1 h2 => hn i h1 (by omega)
    · obtain rfl : j = n := by omega
      rw [hp]; rfl

/-! ## the text's order, step by step -/
/-- what a step of the reader's does -/
def StepR (P : Program) (md : FuncId → Md) (E : FnA) (N n0 : Nat) (sel : Op → Bool) (ops : Array Oper) (o : Oper) (e : Env) (b : Bx) (r : AV) (e' : Env) (b' : Bx) : Prop :=
  if sel o.op = true then
    (wantA ops e o = some true ∧ ∃ en1, evOp P md E n0 e b o.op = some (r, en1, b') ∧ put N o.dst r en1 = some e') ∨
    (wantA ops e o = some false ∧ r = .v undef ∧ put N o.dst (.v undef) e = some e' ∧ b' = b)
  else e' = e ∧ b' = b

theorem trace {P : Program} {md : FuncId → Md} {E : FnA} {N n0 : Nat} {sel : Op → Bool} {ops : Array Oper} : ∀ (l : List Oper) {env env' : Env} {bx bx' : Bx}, evOps P md E N n0 sel ops l env bx = some (env', bx') →
    ∃ (e : Nat → Env) (b : Nat → Bx) (r : Nat → AV), e 0 = env ∧ b 0 = bx ∧ e l.length = env' ∧ b l.length = bx' ∧ ∀ (i : Nat) (o : Oper), l[i]? = some o → StepR P md E N n0 sel ops o (e i) (b i) (r i) (e (i + 1)) (b (i + 1))
  | [], env, env', bx, bx', h => by
    simp only [evOps, Option.some.injEq, Prod.mk.injEq] at h
    exact ⟨fun _ => env, fun _ => bx, fun _ => .junk, rfl, rfl, h.1, h.2, fun i o h => by simp at h⟩
  | o :: l, env, env', bx, bx', h => by
    have key : ∀ (env1 : Env) (bx1 : Bx) (r0 : AV), evOps P md E N n0 sel ops l env1 bx1 = some (env', bx') → StepR P md E N n0 sel ops o env bx r0 env1 bx1 →
        ∃ (e : Nat → Env) (b : Nat → Bx) (r : Nat → AV), e 0 = env ∧ b 0 = bx ∧ e (o :: l).length = env' ∧ b (o :: l).length = bx' ∧ ∀ (i : Nat) (o' : Oper), (o :: l)[i]? = some o' → StepR P md E N n0 sel ops o' (e i) (b i) (r i) (e (i + 1)) (b (i + 1)) := by
      intro env1 bx1 r0 h1 h2
      obtain ⟨e, b, r, g1, g2, g3, g4, g5⟩ := trace l h1
      refine ⟨fun i => match i with | 0 => env | i + 1 => e i, fun i => match i with | 0 => bx | i + 1 => b i, fun i => match i with | 0 => r0 | i + 1 => r i, rfl, rfl, g3, g4, ?_⟩
      intro i o' ho
      rcases i with _ | i
      · simp only [List.getElem?_cons_zero, Option.some.injEq] at ho
        subst ho
        simpa only [g1, g2] using h2
      · exact g5 i o' (by simpa using ho)
    simp only [evOps] at h
    split at h
    · rename_i hsel
      split at h
      · rename_i hw
        simp only [Option.bind_eq_some_iff] at h
        obtain ⟨⟨r, env1, bx1⟩, h1, env2, h2, h3⟩ := h
        exact key env2 bx1 r h3 (by unfold StepR; rw [if_pos hsel]; exact .inl ⟨hw, env1, h1, h2⟩)
      · rename_i hw
        simp only [Option.bind_eq_some_iff] at h
        obtain ⟨env2, h2, h3⟩ := h
        exact key env2 bx (.v undef) h3 (by unfold StepR; rw [if_pos hsel]; exact .inr ⟨hw, rfl, h2, rfl⟩)
      · simp at h
    · rename_i hsel
      exact key env bx .junk h (by unfold StepR; rw [if_neg hsel]; exact ⟨rfl, rfl⟩)

theorem traceD {P : Program} {md : FuncId → Md} {E : FnA} {N n0 : Nat} {ops : Array Oper} : ∀ (l : List Oper) {j : Nat} {env env' : Env} {bx bx' : Bx} {acc : List (Nat × Bool × AV)} {acf : List (Nat × Option AV × List AV)}, evOpsD P md E N n0 ops l j env bx acc acf = some (env', bx') →
    ∃ (e : Nat → Env) (b : Nat → Bx) (r : Nat → AV), e 0 = env ∧ b 0 = bx ∧ e l.length = env' ∧ b l.length = bx' ∧
      (∀ (i : Nat) (o : Oper), l[i]? = some o → StepR P md E N n0 (fun o => !hoist o) ops o (e i) (b i) (r i) (e (i + 1)) (b (i + 1))) ∧
      (∀ (i : Nat) (o : Oper), l[i]? = some o → hoist o.op = false → (∀ p ∈ acc, okD ops (j + i) (adr md (e i) (b i) o.op) p = true) ∧ ∀ p ∈ acf, okF ops (j + i) (entF ops (e i) o (r i)) p = true) ∧
      (∀ (i1 i2 : Nat) (o1 o2 : Oper), i1 < i2 → l[i1]? = some o1 → l[i2]? = some o2 → hoist o1.op = false → hoist o2.op = false →
        (∀ s x, adr md (e i1) (b i1) o1.op = some (s, x) → okD ops (j + i2) (adr md (e i2) (b i2) o2.op) (j + i1, s, x) = true) ∧ okF ops (j + i2) (entF ops (e i2) o2 (r i2)) (j + i1, entF ops (e i1) o1 (r i1)) = true)
  | [], j, env, env', bx, bx', acc, acf, h => by
    simp only [evOpsD, Option.some.injEq, Prod.mk.injEq] at h
    exact ⟨fun _ => env, fun _ => bx, fun _ => .junk, rfl, rfl, h.1, h.2, fun i o h => by simp at h, fun i o h => by simp at h, fun i1 i2 o1 o2 _ h => by simp at h⟩
  | o :: l, j, env, env', bx, bx', acc, acf, h => by
    have key : ∀ (env1 : Env) (bx1 : Bx) (r0 : AV) (acc1 : List (Nat × Bool × AV)) (acf1 : List (Nat × Option AV × List AV)), evOpsD P md E N n0 ops l (j + 1) env1 bx1 acc1 acf1 = some (env', bx') → StepR P md E N n0 (fun o => !hoist o) ops o env bx r0 env1 bx1 →
        (∀ p ∈ acc, p ∈ acc1) → (∀ p ∈ acf, p ∈ acf1) → (hoist o.op = false → (∀ p ∈ acc, okD ops j (adr md env bx o.op) p = true) ∧ ∀ p ∈ acf, okF ops j (entF ops env o r0) p = true) →
        (hoist o.op = false → (∀ s x, adr md env bx o.op = some (s, x) → (j, s, x) ∈ acc1) ∧ (j, entF ops env o r0) ∈ acf1) →
        ∃ (e : Nat → Env) (b : Nat → Bx) (r : Nat → AV), e 0 = env ∧ b 0 = bx ∧ e (o :: l).length = env' ∧ b (o :: l).length = bx' ∧
          (∀ (i : Nat) (o' : Oper), (o :: l)[i]? = some o' → StepR P md E N n0 (fun o => !hoist o) ops o' (e i) (b i) (r i) (e (i + 1)) (b (i + 1))) ∧
          (∀ (i : Nat) (o' : Oper), (o :: l)[i]? = some o' → hoist o'.op = false → (∀ p ∈ acc, okD ops (j + i) (adr md (e i) (b i) o'.op) p = true) ∧ ∀ p ∈ acf, okF ops (j + i) (entF ops (e i) o' (r i)) p = true) ∧
          (∀ (i1 i2 : Nat) (o1 o2 : Oper), i1 < i2 → (o :: l)[i1]? = some o1 → (o :: l)[i2]? = some o2 → hoist o1.op = false → hoist o2.op = false →
            (∀ s x, adr md (e i1) (b i1) o1.op = some (s, x) → okD ops (j + i2) (adr md (e i2) (b i2) o2.op) (j + i1, s, x) = true) ∧ okF ops (j + i2) (entF ops (e i2) o2 (r i2)) (j + i1, entF ops (e i1) o1 (r i1)) = true) := by
      intro env1 bx1 r0 acc1 acf1 h1 h2 hsub hsubf hok hin
      obtain ⟨e, b, r, g1, g2, g3, g4, g5, g6, g7⟩ := traceD l h1
      refine ⟨fun i => match i with | 0 => env | i + 1 => e i, fun i => match i with | 0 => bx | i + 1 => b i, fun i => match i with | 0 => r0 | i + 1 => r i, rfl, rfl, g3, g4, ?_, ?_, ?_⟩
      · intro i o' ho
        rcases i with _ | i
        · simp only [List.getElem?_cons_zero, Option.some.injEq] at ho
          subst ho
          simpa only [g1, g2] using h2
        · exact g5 i o' (by simpa using ho)
      · intro i o' ho hh
        rcases i with _ | i
        · simp only [List.getElem?_cons_zero, Option.some.injEq] at ho
          subst ho
          exact hok hh
        · have := g6 i o' (by simpa using ho) hh
          rw [show j + 1 + i = j + (i + 1) by omega] at this
          exact ⟨fun p hp => this.1 p (hsub p hp), fun p hp => this.2 p (hsubf p hp)⟩
      · intro i1 i2 o1 o2 hlt ho1 ho2 hh1 hh2
        rcases i2 with _ | i2
        · omega
        rcases i1 with _ | i1
        · simp only [List.getElem?_cons_zero, Option.some.injEq] at ho1
          subst ho1
          have := g6 i2 o2 (by simpa using ho2) hh2
          rw [show j + 1 + i2 = j + (i2 + 1) by omega] at this
          exact ⟨fun s x hx => this.1 _ ((hin hh1).1 s x hx), this.2 _ (hin hh1).2⟩
        · have := g7 i1 i2 o1 o2 (by omega) (by simpa using ho1) (by simpa using ho2) hh1 hh2
          rwa [show j + 1 + i2 = j + (i2 + 1) by omega, show j + 1 + i1 = j + (i1 + 1) by omega] at this
    simp only [evOpsD] at h
    split at h
    · rename_i hh
      exact key env bx .junk acc acf h (by unfold StepR; rw [if_neg (by simp [hh])]; exact ⟨rfl, rfl⟩) (fun p hp => hp) (fun p hp => hp) (fun h' => by rw [hh] at h'; cases h') (fun h' => by rw [hh] at h'; cases h')
    · rename_i hh
      have hh' : hoist o.op = false := by simpa using hh
      rw [Option.bind_eq_some_iff] at h
      obtain ⟨_, hg, h⟩ := h
      have gd : ∀ {b : Bool} {u : Unit}, guardB b = some u → b = true := by
        intro b u h
        unfold guardB at h
        split at h
        · assumption
        · cases h
      have hall : acc.all (okD ops j (adr md env bx o.op)) = true := gd hg
      have hok : ∀ p ∈ acc, okD ops j (adr md env bx o.op) p = true := fun p hp => List.all_eq_true.1 hall p hp
      have hsub : ∀ p ∈ acc, p ∈ accN j (adr md env bx o.op) acc := by
        intro p hp
        unfold accN
        split
        · exact List.mem_append_left _ hp
        · exact hp
      have hin : ∀ s x, adr md env bx o.op = some (s, x) → (j, s, x) ∈ accN j (adr md env bx o.op) acc := by
        intro s x hx
        unfold accN
        rw [hx]
        simp
      split at h
      · rename_i hw
        simp only [Option.bind_eq_some_iff] at h
        obtain ⟨⟨r, env1, bx1⟩, h1, env2, h2, _, hgf, h3⟩ := h
        exact key env2 bx1 r _ _ h3 (by unfold StepR; rw [if_pos (by simp [hh'])]; exact .inl ⟨hw, env1, h1, h2⟩) hsub (fun p hp => List.mem_append_left _ hp) (fun _ => ⟨hok, fun p hp => List.all_eq_true.1 (gd hgf) p hp⟩) (fun _ => ⟨hin, by simp⟩)
      · rename_i hw
        simp only [Option.bind_eq_some_iff] at h
        obtain ⟨env2, h2, _, hgf, h3⟩ := h
        exact key env2 bx (.v undef) _ _ h3 (by unfold StepR; rw [if_pos (by simp [hh'])]; exact .inr ⟨hw, rfl, h2, rfl⟩) hsub (fun p hp => List.mem_append_left _ hp) (fun _ => ⟨hok, fun p hp => List.all_eq_true.1 (gd hgf) p hp⟩) (fun _ => ⟨hin, by simp⟩)
      · simp at h

section
variable {P : Program} {md : FuncId → Md} {E : FnA} {n0 : Nat}

/-- an operation that looks at no memory -/
theorem ev0 {env env' : Env} {bx bx' : Bx} {op : Op} {r : AV} (hc : mcl P md op = 0) (h : evOp P md E n0 env bx op = some (r, env', bx')) : env' = env ∧ bx' = bx ∧ ∀ b2, evOp P md E n0 env b2 op = some (r, env, b2) := by
  have mv : ∀ x : Operand, (∀ c, x = .const c → c ≠ .slice none 0 0) → ∀ b, moveA env b x = some (opnd env x, env, b) := by
    intro x hx b
    unfold moveA
    split
    · exact absurd rfl (hx _ rfl)
    · rfl
  cases op
  case move x =>
    have hx : ∀ c, x = .const c → c ≠ .slice none 0 0 := by
      rintro c rfl rfl
      simp [mcl] at hc
    simp only [evOp, mv x hx, Option.some.injEq, Prod.mk.injEq] at h
    obtain ⟨rfl, rfl, rfl⟩ := h
    exact ⟨rfl, rfl, fun b2 => by simp only [evOp, mv x hx]⟩
  case assign x =>
    have hx : ∀ c, x = .const c → c ≠ .slice none 0 0 := by
      rintro c rfl rfl
      simp [mcl] at hc
    simp only [evOp, mv x hx, Option.some.injEq, Prod.mk.injEq] at h
    obtain ⟨rfl, rfl, rfl⟩ := h
    exact ⟨rfl, rfl, fun b2 => by simp only [evOp, mv x hx]⟩
  case pick c x y =>
    simp only [evOp] at h ⊢
    split at h
    · split at h
      · simp only [Option.some.injEq, Prod.mk.injEq] at h
        obtain ⟨rfl, rfl, rfl⟩ := h
        exact ⟨rfl, rfl, fun b2 => rfl⟩
      · split at h
        · rename_i ht
          simp only [Option.some.injEq, Prod.mk.injEq] at h
          obtain ⟨rfl, rfl, rfl⟩ := h
          exact ⟨rfl, rfl, fun b2 => by simp [ht]⟩
        · rename_i ht
          simp only [Option.some.injEq, Prod.mk.injEq] at h
          obtain ⟨rfl, rfl, rfl⟩ := h
          exact ⟨rfl, rfl, fun b2 => by simp [ht]⟩
    · simp at h
  case build t parts =>
    simp only [evOp, Option.map_eq_some_iff, Prod.mk.injEq] at h
    obtain ⟨r0, hr, rfl, rfl, rfl⟩ := h
    exact ⟨rfl, rfl, fun b2 => by simp only [evOp, hr, Option.map_some]⟩
  case nilCheck x =>
    simp only [evOp] at h ⊢
    split at h <;> simp only [reduceCtorEq, Option.some.injEq, Prod.mk.injEq] at h <;> (obtain ⟨rfl, rfl, rfl⟩ := h; exact ⟨rfl, rfl, fun b2 => rfl⟩)
  case binOp op t x y u =>
    simp only [evOp, Option.map_eq_some_iff, Prod.mk.injEq] at h
    obtain ⟨r0, hr, rfl, rfl, rfl⟩ := h
    exact ⟨rfl, rfl, fun b2 => by simp only [evOp, hr, Option.map_some]⟩
  case unOp op t x =>
    simp only [evOp, Option.map_eq_some_iff, Prod.mk.injEq] at h
    obtain ⟨r0, hr, rfl, rfl, rfl⟩ := h
    exact ⟨rfl, rfl, fun b2 => by simp only [evOp, hr, Option.map_some]⟩
  case sliceToArrayPointer t x =>
    simp only [evOp, Option.map_eq_some_iff, Prod.mk.injEq] at h
    obtain ⟨r0, hr, rfl, rfl, rfl⟩ := h
    exact ⟨rfl, rfl, fun b2 => by simp only [evOp, hr, Option.map_some]⟩
  case makeFunc fn pre caps =>
    cases fn <;> simp only [evOp, reduceCtorEq, Option.some.injEq, Prod.mk.injEq] at h
    obtain ⟨rfl, rfl, rfl⟩ := h
    exact ⟨rfl, rfl, fun b2 => rfl⟩
  case fieldAddr t x i =>
    simp only [evOp, Option.map_eq_some_iff, Prod.mk.injEq] at h
    obtain ⟨r0, hr, rfl, rfl, rfl⟩ := h
    exact ⟨rfl, rfl, fun b2 => by simp only [evOp, hr, Option.map_some]⟩
  case field t x i =>
    simp only [evOp, Option.map_eq_some_iff, Prod.mk.injEq] at h
    obtain ⟨r0, hr, rfl, rfl, rfl⟩ := h
    exact ⟨rfl, rfl, fun b2 => by simp only [evOp, hr, Option.map_some]⟩
  case indexAddr t x i =>
    simp only [evOp, Option.map_eq_some_iff, Prod.mk.injEq] at h
    obtain ⟨r0, hr, rfl, rfl, rfl⟩ := h
    exact ⟨rfl, rfl, fun b2 => by simp only [evOp, hr, Option.map_some]⟩
  case index t x i =>
    simp only [evOp, Option.map_eq_some_iff, Prod.mk.injEq] at h
    obtain ⟨r0, hr, rfl, rfl, rfl⟩ := h
    exact ⟨rfl, rfl, fun b2 => by simp only [evOp, hr, Option.map_some]⟩
  case extract x i =>
    simp only [evOp] at h ⊢
    split at h
    · simp only [Option.map_eq_some_iff, Prod.mk.injEq] at h
      obtain ⟨r0, hr, rfl, rfl, rfl⟩ := h
      exact ⟨rfl, rfl, fun b2 => by simp [hr]⟩
    · simp at h
  case call c =>
    obtain ⟨callee, args, argTypes⟩ := c
    cases callee with
    | value g =>
      exfalso
      cases g <;> simp only [mcl] at hc <;> first | omega | (split at hc <;> omega)
    | invoke g m => simp [mcl] at hc
    | builtin b =>
      cases b
      case len =>
        have hnm : ∀ t ∈ argTypes.toList, isMp P t = false := by
          intro t ht
          simp only [mcl] at hc
          split at hc
          · simp at hc
          · rename_i hn
            rw [Bool.not_eq_true, List.any_eq_false] at hn
            have := hn t ht
            simpa using this
        simp only [evOp] at h ⊢
        split at h
        · rename_i t ts hxx htt
          rw [hnm t (by simp [htt])] at h ⊢
          simp only [Option.map_eq_some_iff, Prod.mk.injEq] at h
          obtain ⟨r0, hr, rfl, rfl, rfl⟩ := h
          exact ⟨rfl, rfl, fun b2 => by simp at hr; simp [hr]⟩
        · simp at h
      case min =>
        simp only [evOp] at h ⊢
        split at h
        · simp only [Option.map_eq_some_iff, Prod.mk.injEq] at h
          obtain ⟨r0, hr, rfl, rfl, rfl⟩ := h
          exact ⟨rfl, rfl, fun b2 => by simp [hr]⟩
        · simp at h
      case max =>
        simp only [evOp] at h ⊢
        split at h
        · simp only [Option.map_eq_some_iff, Prod.mk.injEq] at h
          obtain ⟨r0, hr, rfl, rfl, rfl⟩ := h
          exact ⟨rfl, rfl, fun b2 => by simp [hr]⟩
        · simp at h
      all_goals (simp [mcl] at hc)
  case convert s t x => simp only [mcl] at hc; split at hc <;> omega
  case box t x => simp only [mcl] at hc; split at hc <;> omega
  case buildSlice t n parts =>
    have hl : litM md = true := by
      simp only [mcl] at hc
      split at hc
      · assumption
      · omega
    simp only [evOp, hl, if_true, Option.map_eq_some_iff, Prod.mk.injEq] at h
    obtain ⟨r0, hr, rfl, rfl, rfl⟩ := h
    exact ⟨rfl, rfl, fun b2 => by simp only [evOp, hl, if_true, hr, Option.map_some]⟩
  all_goals (simp [mcl] at hc)

/-- 'append' -/
theorem app_mcl {op : Op} (h : noApp op = false) : mcl P md op = 2 ∧ hoist op = false ∧ isMk md op = false ∧ isSt md op = true ∧ isLd md op = false := by
  cases op <;> try (simp [noApp] at h; done)
  rename_i c
  obtain ⟨callee, args, argTypes⟩ := c
  cases callee <;> try (simp [noApp] at h; done)
  rename_i b
  cases b <;> first | (simp [noApp] at h; done) | exact ⟨rfl, rfl, rfl, rfl, rfl⟩
theorem mdG_func (md : FuncId → Md) (f : FuncId) : mdG md (.func f) = md := rfl
/-- an operation that is not 'append', and changes no box, unless it writes -/
theorem ev1 {env env' : Env} {bx bx' : Bx} {op : Op} {r : AV} (hc : mcl P md op ≠ 3) (hna : noApp op = true) (h : evOp P md E n0 env bx op = some (r, env', bx')) : env' = env ∧ noApp op = true ∧ (mcl P md op ≠ 2 → bx' = bx) := by
  cases op
  case load t x =>
    simp only [evOp, Option.map_eq_some_iff, Prod.mk.injEq] at h
    obtain ⟨r0, hr, rfl, rfl, rfl⟩ := h
    exact ⟨rfl, rfl, fun _ => rfl⟩
  case slice t x lo hi mx =>
    simp only [evOp, Option.map_eq_some_iff, Prod.mk.injEq] at h
    obtain ⟨r0, hr, rfl, rfl, rfl⟩ := h
    exact ⟨rfl, rfl, fun _ => rfl⟩
  case lookup t x i ok =>
    simp only [evOp, Option.map_eq_some_iff, Prod.mk.injEq] at h
    obtain ⟨r0, hr, rfl, rfl, rfl⟩ := h
    exact ⟨rfl, rfl, fun _ => rfl⟩
  case mapUpdate t x i y =>
    simp only [evOp, Option.map_eq_some_iff, Prod.mk.injEq] at h
    obtain ⟨r0, hr, rfl, rfl, rfl⟩ := h
    exact ⟨rfl, rfl, fun h2 => absurd rfl h2⟩
  case convert s t x =>
    have hsl : isSl P t = false := by
      cases hb : isSl P t
      · rfl
      · simp [mcl, hb] at hc
    simp only [evOp, Option.map_eq_some_iff, Prod.mk.injEq] at h
    obtain ⟨⟨r0, b0⟩, hr, rfl, rfl, rfl⟩ := h
    refine ⟨rfl, rfl, fun _ => ?_⟩
    unfold convA at hr
    split at hr
    · rename_i sd dd hs hd
      have hd' : ∀ e, dd ≠ .slice e := by
        rintro e rfl
        simp [isSl, hd] at hsl
      split at hr
      · split at hr <;> simp only [reduceCtorEq, Option.some.injEq, Prod.mk.injEq] at hr
        exact hr.2.symm
      · split at hr
        · simp only [Option.some.injEq, Prod.mk.injEq] at hr; exact hr.2.symm
        · exact absurd rfl (hd' _)
        · simp at hr
      · split at hr
        · split at hr
          · simp only [Option.bind_eq_some_iff] at hr
            obtain ⟨⟨m, l⟩, _, hr⟩ := hr
            simp only at hr
            split at hr
            · simp only [Option.map_eq_some_iff, Prod.mk.injEq] at hr
              obtain ⟨_, _, _, hr⟩ := hr
              exact hr.symm
            · simp at hr
          · simp at hr
        · exact absurd rfl (hd' _)
        · simp at hr
      · split at hr
        · split at hr
          · simp only [Option.map_eq_some_iff, Prod.mk.injEq] at hr
            obtain ⟨_, _, _, hr⟩ := hr
            exact hr.symm
          · simp at hr
        · simp at hr
      · simp at hr
    · simp at hr
  case store t x y =>
    simp only [evOp, Option.map_eq_some_iff, Prod.mk.injEq] at h
    obtain ⟨b0, hr, rfl, rfl, rfl⟩ := h
    exact ⟨rfl, rfl, fun h2 => by simp [mcl] at h2⟩
  case call c =>
    obtain ⟨callee, args, argTypes⟩ := c
    cases callee with
    | value g =>
      cases g with
      | func f =>
        simp only [evOp, opnd, Option.map_eq_some_iff, Prod.mk.injEq] at h
        obtain ⟨⟨r0, b0⟩, hr, rfl, rfl, rfl⟩ := h
        refine ⟨rfl, rfl, fun h2 => ?_⟩
        simp only [mcl] at hc h2
        rw [show mdG md (Operand.func f) = md from rfl] at hr
        unfold callA at hr
        cases hmd : md f <;> simp only [hmd] at hc h2 hr
        · simp only [Option.map_eq_some_iff, Prod.mk.injEq] at hr
          obtain ⟨_, _, _, hr⟩ := hr
          exact hr.symm
        · exact absurd rfl hc
        · exact absurd rfl h2
        · exact absurd rfl h2
        · simp only [Option.bind_eq_some_iff] at hr
          obtain ⟨r1, _, hr⟩ := hr
          split at hr
          · simp only [Option.some.injEq, Prod.mk.injEq] at hr
            exact hr.2.symm
          · split at hr
            · simp only [Option.some.injEq, Prod.mk.injEq] at hr
              exact hr.2.symm
            · simp at hr
        · exact absurd rfl h2
      | tmp t =>
        simp only [evOp] at h
        split at h
        · rename_i f pre caps _
          simp only [Option.map_eq_some_iff, Prod.mk.injEq] at h
          obtain ⟨⟨r0, b0⟩, hr, rfl, rfl, rfl⟩ := h
          refine ⟨rfl, rfl, fun _ => ?_⟩
          unfold callA at hr
          have hm : mdG md (.tmp t) f = .frozen ∨ mdG md (.tmp t) f = .objR := by
            show mdV md f = .frozen ∨ mdV md f = .objR
            unfold mdV
            split
            · exact .inl rfl
            · exact .inr rfl
          rcases hm with hm | hm <;> simp only [hm] at hr
          · simp only [Option.map_eq_some_iff, Prod.mk.injEq] at hr
            obtain ⟨_, _, _, hr⟩ := hr
            exact hr.symm
          · simp only [Option.bind_eq_some_iff] at hr
            obtain ⟨r1, _, hr⟩ := hr
            split at hr
            · simp only [Option.some.injEq, Prod.mk.injEq] at hr
              exact hr.2.symm
            · split at hr
              · simp only [Option.some.injEq, Prod.mk.injEq] at hr
                exact hr.2.symm
              · simp at hr
        · simp at h
      | const v => exact absurd rfl hc
      | global g => exact absurd rfl hc
    | invoke g m => simp [evOp] at h
    | builtin b =>
      cases b
      case len =>
        have h0 : mcl P md (Op.call { callee := Callee.builtin Builtin.len, args := args, argTypes := argTypes }) = 0 := by
          simp only [mcl] at hc ⊢
          split at hc
          · exact absurd rfl hc
          · rename_i hn
            rw [if_neg hn]
        exact ⟨(ev0 h0 h).1, rfl, fun _ => (ev0 h0 h).2.1⟩
      case min => exact ⟨(ev0 (by rfl) h).1, rfl, fun _ => (ev0 (by rfl) h).2.1⟩
      case max => exact ⟨(ev0 (by rfl) h).1, rfl, fun _ => (ev0 (by rfl) h).2.1⟩
      case copy =>
        simp only [evOp] at h
        split at h
        · simp only [Option.map_eq_some_iff, Prod.mk.injEq] at h
          obtain ⟨r0, hr, rfl, rfl, rfl⟩ := h
          exact ⟨rfl, rfl, fun h2 => absurd rfl h2⟩
        · simp at h
      case clear =>
        simp only [evOp] at h
        split at h
        · simp only [Option.map_eq_some_iff, Prod.mk.injEq] at h
          obtain ⟨r0, hr, rfl, rfl, rfl⟩ := h
          exact ⟨rfl, rfl, fun h2 => absurd rfl h2⟩
        · simp at h
      case append => simp [noApp] at hna
      all_goals exact absurd rfl hc
  case buildSlice t n parts =>
    simp only [evOp] at h
    split at h
    · simp only [Option.map_eq_some_iff, Prod.mk.injEq] at h
      obtain ⟨r0, hr, rfl, rfl, rfl⟩ := h
      exact ⟨rfl, rfl, fun _ => rfl⟩
    · rename_i hlit
      simp only [Option.map_eq_some_iff, Prod.mk.injEq] at h
      obtain ⟨r0, hr, rfl, rfl, rfl⟩ := h
      exact ⟨rfl, rfl, fun h2 => absurd (by simp only [mcl, if_neg hlit]) h2⟩
  case box t x =>
    by_cases hi : ipM md = true
    · exact absurd (by simp only [mcl, if_pos hi]) hc
    simp only [evOp, if_neg hi] at h
    split at h
    · simp at h
    · simp only [Option.some.injEq, Prod.mk.injEq] at h
      obtain ⟨rfl, rfl, rfl⟩ := h
      exact ⟨rfl, rfl, fun h2 => absurd (by simp only [mcl, if_neg hi]) h2⟩
  case move x =>
    have h0 : mcl P md (.move x) = 0 := by
      rcases Nat.lt_or_ge 0 (mcl P md (.move x)) with h0 | h0
      · exfalso; unfold mcl at hc h0; split at hc <;> simp_all
      · omega
    exact ⟨(ev0 h0 h).1, rfl, fun _ => (ev0 h0 h).2.1⟩
  case assign x =>
    have h0 : mcl P md (.assign x) = 0 := by
      rcases Nat.lt_or_ge 0 (mcl P md (.assign x)) with h0 | h0
      · exfalso; unfold mcl at hc h0; split at hc <;> simp_all
      · omega
    exact ⟨(ev0 h0 h).1, rfl, fun _ => (ev0 h0 h).2.1⟩
  all_goals first
    | exact ⟨(ev0 (by rfl) h).1, rfl, fun _ => (ev0 (by rfl) h).2.1⟩
    | (exfalso; simp [mcl] at hc; done)
end
end Go.Sy
