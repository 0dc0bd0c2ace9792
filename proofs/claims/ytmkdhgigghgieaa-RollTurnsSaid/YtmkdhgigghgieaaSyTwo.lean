/-
  The reader's regions that draw their order, against the machine's: the reader's two rounds.
-/
import Derived.Test.YtmkdhgigghgieaaSyAny
namespace Go.Sy

section
variable {P : Program} {md : FuncId → Md} {E : FnA} {N n0 : Nat} {ops : Array Oper}

theorem lastF_congr2 {p : Nat → Bool} {rs rs' : Nat → AV} {x0 : AV} : ∀ {n : Nat}, (∀ i, i < n → p i = true → rs i = rs' i) → lastF p rs x0 n = lastF p rs' x0 n
  | 0, _ => rfl
  | n + 1, h => by
    simp only [lastF, lastF_congr2 (n := n) (fun i hi => h i (by omega))]
    split
    · exact h n (by omega) (by assumption)
    · rfl

theorem lastF_none {p : Nat → Bool} {rs : Nat → AV} {x0 : AV} : ∀ {n : Nat}, (∀ i, i < n → p i = false) → lastF p rs x0 n = x0
  | 0, _ => rfl
  | n + 1, h => by simp only [lastF, h n (by omega), Bool.false_eq_true, if_false]; exact lastF_none fun i hi => h i (by omega)

theorem lastF_upto {p : Nat → Bool} {rs : Nat → AV} {x0 : AV} {j : Nat} : ∀ {n : Nat}, j ≤ n → (∀ i, j ≤ i → i < n → p i = false) → lastF p rs x0 n = lastF p rs x0 j
  | 0, hj, _ => by rw [show j = 0 by omega]
  | n + 1, hj, h => by
    rcases Nat.lt_or_ge n j with h1 | h1
    · rw [show j = n + 1 by omega]
    · simp only [lastF, h n h1 (by omega), Bool.false_eq_true, if_false]
      exact lastF_upto h1 fun i h2 h3 => h i h2 (by omega)

/-- what the two rounds over a region's operations tell: first what is made ahead of the rest, then the rest -/
structure Two (P : Program) (md : FuncId → Md) (E : FnA) (N n0 : Nat) (ops : Array Oper) (env : Env) (bx : Bx) (env' : Env) (bx' : Bx) (e2 : Nat → Env) (b1 b2 : Nat → Bx) (rs : Nat → AV) : Prop where
  ext : ∃ x : Bx, b2 0 = bx ++ x
  hz : ∀ (i : Nat) (o : Oper), ops[i]? = some o → hoist o.op = true → ∃ e en1, evOp P md E n0 e (b1 i) o.op = some (rs i, en1, b1 (i + 1))
  ge : ∀ i, i < ops.size → bx.length ≤ (b1 i).length
  idz : ∀ (i : Nat) (o : Oper) (z : List AV), ops[i]? = some o → hoist o.op = true → b1 (i + 1) = b1 i ++ [z] → (b2 0)[(b1 i).length]? = some z
  idne : ∀ (i k : Nat) (o o' : Oper), ops[i]? = some o → hoist o.op = true → ops[k]? = some o' → hoist o'.op = true → i ≠ k → (b1 i).length ≠ (b1 k).length
  st : ∀ (i : Nat) (o : Oper), ops[i]? = some o → StepR P md E N n0 (fun o => !hoist o) ops o (e2 i) (b2 i) (rs i) (e2 (i + 1)) (b2 (i + 1)) ∨ (hoist o.op = true ∧ e2 (i + 1) = e2 i ∧ b2 (i + 1) = b2 i)
  get : ∀ (t j : Nat), j ≤ ops.size → Sy.get (e2 j) t = lastF (fun k => !hOf ops k && (dstOf ops k == some t)) rs (lastF (fun k => hOf ops k && (dstOf ops k == some t)) rs (Sy.get env t) ops.size) j
  fin : e2 ops.size = env' ∧ b2 ops.size = bx'
  dlt : ∀ i d, dstOf ops i = some d → d < N
  ap : ∀ (i1 i2 : Nat) (o1 o2 : Oper), i1 < i2 → ops[i1]? = some o1 → ops[i2]? = some o2 → hoist o1.op = false → hoist o2.op = false → ∀ s x, adr (e2 i1) (b2 i1) o1.op = some (s, x) → okD ops i2 (adr (e2 i2) (b2 i2) o2.op) (i1, s, x) = true

theorem put_lt {d : Option Nat} {x : AV} {env env' : Env} (h : put N d x env = some env') {t : Nat} (ht : d = some t) : t < N := by
  subst ht
  simp only [put] at h
  split at h
  · assumption
  · simp at h

theorem step_lt {sel : Op → Bool} {o : Oper} {e e' : Env} {b b' : Bx} {r : AV} (h : StepR P md E N n0 sel ops o e b r e' b') (hs : sel o.op = true) {t : Nat} (ht : o.dst = some t) : t < N := by
  unfold StepR at h
  rw [if_pos hs] at h
  rcases h with ⟨_, en1, h1, h2⟩ | ⟨_, _, h2, _⟩ <;> exact put_lt h2 ht

theorem two (D : DrawOk P md ops) {env env' : Env} {bx bx' : Bx} (h : evReg P md E N n0 ops true env bx = some (env', bx')) : ∃ e2 b1 b2 rs, Two P md E N n0 ops env bx env' bx' e2 b1 b2 rs := by
  simp only [evReg, if_true, Option.bind_eq_some_iff] at h
  obtain ⟨⟨envm, bxm⟩, h1, h2⟩ := h
  obtain ⟨e1, b1, r1, p1, p2, p3, p4, p5⟩ := trace _ h1
  obtain ⟨e2, b2, r2, q1, q2, q3, q4, q5, -, q7⟩ := traceD _ h2
  simp only [Array.length_toList, Array.getElem?_toList, Nat.zero_add] at p3 p4 p5 q3 q4 q5 q7
  have hof : ∀ (i : Nat) (o : Oper), ops[i]? = some o → hOf ops i = hoist o.op := fun i o ho => by simp [hOf, ho]
  -- the first round, step by step
  have s1 : ∀ (i : Nat) (o : Oper), ops[i]? = some o → hoist o.op = true → ∃ z, evOp P md E n0 (e1 i) (b1 i) o.op = some (r1 i, e1 i, b1 (i + 1)) ∧ b1 (i + 1) = b1 i ++ [z] := by
    intro i o ho hh
    have hs := p5 i o ho
    unfold StepR at hs
    rw [if_pos hh] at hs
    have hg := D.kind i o ho
    rw [if_pos hh] at hg
    rcases hs with ⟨_, en1, g1, _⟩ | ⟨g1, _⟩
    · obtain ⟨rfl, z, g2, _⟩ := hoist_ok hh g1
      exact ⟨z, g1, g2⟩
    · simp [wantA, hg] at g1
  have s1' : ∀ (i : Nat) (o : Oper), ops[i]? = some o → hoist o.op = false → b1 (i + 1) = b1 i := by
    intro i o ho hh
    have hs := p5 i o ho
    unfold StepR at hs
    rw [if_neg (by simp [hh])] at hs
    exact hs.2
  have mono : ∀ j i, i ≤ j → j ≤ ops.size → ∃ x : Bx, b1 j = b1 i ++ x := by
    intro j
    induction j with
    | zero => intro i hi _; exact ⟨[], by rw [show i = 0 by omega]; simp⟩
    | succ j ih =>
      intro i hi hj
      rcases Nat.lt_or_ge j i with h1 | h1
      · exact ⟨[], by rw [show i = j + 1 by omega]; simp⟩
      · obtain ⟨x, hx⟩ := ih i h1 (by omega)
        have ho : ops[j]? = some ops[j] := Array.getElem?_eq_getElem (by omega)
        cases hh : hoist ops[j].op
        · exact ⟨x, by rw [s1' j _ ho hh, hx]⟩
        · obtain ⟨z, _, hz⟩ := s1 j _ ho hh
          exact ⟨x ++ [z], by rw [hz, hx, List.append_assoc]⟩
  have lts : ∀ (i : Nat) (o : Oper), ops[i]? = some o → i < ops.size := fun i o ho => (Array.getElem?_eq_some_iff.mp ho).1
  have idlt : ∀ (i k : Nat) (o o' : Oper), ops[i]? = some o → hoist o.op = true → ops[k]? = some o' → hoist o'.op = true → i < k → (b1 i).length < (b1 k).length := by
    intro i k o o' ho hh ho' _ hik
    obtain ⟨z, _, hz⟩ := s1 i o ho hh
    obtain ⟨x, hx⟩ := mono k (i + 1) hik (by have := lts k o' ho'; omega)
    rw [hx, hz]; simp
  have hb20 : b2 0 = b1 ops.size := by rw [q2, p4]
  refine ⟨e2, b1, b2, fun i => if hOf ops i then r1 i else r2 i, ?_, ?_, ?_, ?_, ?_, ?_, ?_, ⟨q3, q4⟩, ?_, q7⟩
  · obtain ⟨x, hx⟩ := mono ops.size 0 (Nat.zero_le _) (Nat.le_refl _)
    exact ⟨x, by rw [hb20, hx, p2]⟩
  · intro i o ho hh
    obtain ⟨z, g1, _⟩ := s1 i o ho hh
    exact ⟨e1 i, e1 i, by simp only [hof i o ho, hh, if_true]; exact g1⟩
  · intro i hi
    obtain ⟨x, hx⟩ := mono i 0 (Nat.zero_le _) (by omega)
    rw [hx, p2]; simp
  · intro i o z ho hh hz
    obtain ⟨x, hx⟩ := mono ops.size (i + 1) (lts i o ho) (Nat.le_refl _)
    rw [hb20, hx, hz]; simp
  · intro i k o o' ho hh ho' hh' hik
    rcases Nat.lt_or_ge i k with h3 | h3
    · have := idlt i k o o' ho hh ho' hh' h3; omega
    · have := idlt k i o' o ho' hh' ho hh (by omega); omega
  · intro i o ho
    have hs := q5 i o ho
    cases hh : hoist o.op
    · left
      simp only [hof i o ho, hh, Bool.false_eq_true, if_false]
      exact hs
    · right
      unfold StepR at hs
      rw [if_neg (by simp [hh])] at hs
      exact ⟨rfl, hs⟩
  · intro t j hj
    have g1 := trace_get (sel := hoist) (ops := ops) (b := b1) p5 (fun i o en1 ho hh g => (hoist_ok hh g).1) t ops.size (Nat.le_refl _)
    have g2 := trace_get (sel := fun o => !hoist o) (ops := ops) (b := b2) q5 (fun i o en1 ho hh g => by
      have hk := D.kind i o ho
      rw [if_neg (by simpa using hh)] at hk
      exact (ev1 hk g).1) t j hj
    rw [g2, q1, ← p3, g1, p1]
    have m1 : ∀ (k : Nat), k < ops.size → selOf hoist ops k = hOf ops k := fun k hk => rfl
    have m2 : ∀ (k : Nat), k < ops.size → selOf (fun o => !hoist o) ops k = !hOf ops k := by
      intro k hk
      simp [selOf, hOf, Array.getElem?_eq_getElem hk]
    have in1 : lastF (fun k => selOf hoist ops k && (dstOf ops k == some t)) r1 (Sy.get env t) ops.size = lastF (fun k => hOf ops k && (dstOf ops k == some t)) (fun i => if hOf ops i = true then r1 i else r2 i) (Sy.get env t) ops.size :=
      lastF_congr2 fun i hi hp => by
        simp only [Bool.and_eq_true, m1 i hi] at hp
        simp [hp.1]
    rw [in1]
    refine Eq.trans (lastF_congr (p' := fun k => !hOf ops k && (dstOf ops k == some t)) fun i hi => ?_) (lastF_congr2 fun i _ hp => ?_)
    · rw [m2 i (by omega)]
    · simp only [Bool.and_eq_true, Bool.not_eq_true'] at hp
      simp [hp.1]
  · intro i d hd
    cases ho : ops[i]? with
    | none => simp [dstOf, ho] at hd
    | some o =>
      have hd' : o.dst = some d := by simpa [dstOf, ho] using hd
      cases hh : hoist o.op
      · exact step_lt (q5 i o ho) (by simp [hh]) hd'
      · exact step_lt (p5 i o ho) hh hd'

section
variable {env env' : Env} {bx bx' : Bx} {e2 : Nat → Env} {b1 b2 : Nat → Bx} {rs : Nat → AV}

theorem Two.same (D : DrawOk P md ops) (T : Two P md E N n0 ops env bx env' bx' e2 b1 b2 rs) {j1 : Nat} : ∀ {j2 : Nat}, j1 ≤ j2 → j2 ≤ ops.size →
    (∀ (k : Nat) (o : Oper), j1 ≤ k → k < j2 → ops[k]? = some o → mcl P md o.op ≠ 2) → b2 j1 = b2 j2
  | 0, h, _, _ => by rw [show j1 = 0 by omega]
  | j2 + 1, h, hn, hc => by
    rcases Nat.lt_or_ge j2 j1 with h1 | h1
    · rw [show j1 = j2 + 1 by omega]
    · rw [Two.same D T h1 (by omega) fun k o hk hk2 ho => hc k o hk (by omega) ho]
      have ho : ops[j2]? = some ops[j2] := Array.getElem?_eq_getElem (by omega)
      rcases T.st j2 _ ho with hs | hs
      · unfold StepR at hs
        split at hs
        · rename_i hsel
          have hk := D.kind j2 _ ho
          rw [if_neg (by simpa using hsel)] at hk
          rcases hs with ⟨_, en1, g1, _⟩ | ⟨_, _, _, g⟩
          · exact ((ev1 hk g1).2.2 (hc j2 _ h1 (by omega) ho)).symm
          · exact g.symm
        · exact hs.2.symm
      · exact hs.2.2.symm

theorem isSt_cases {op : Op} (h : isSt op = true) : (∃ t a x, op = .store t a x) ∨ isMk op = true := by
  cases op <;> simp [isSt, isMk] at h ⊢
theorem mk_new {env env' : Env} {bx bx' : Bx} {op : Op} {r : AV} (h : isMk op = true) (hv : evOp P md E n0 env bx op = some (r, env', bx')) : (∃ z, bx' = bx ++ [z]) ∧ adr env bx op = some (true, .bp bx.length 0) := by
  cases op <;> simp [isMk] at h
  case box t x =>
    simp only [evOp] at hv
    split at hv
    · simp at hv
    · simp only [Option.some.injEq, Prod.mk.injEq] at hv
      obtain ⟨rfl, rfl, rfl⟩ := hv
      exact ⟨⟨_, rfl⟩, rfl⟩
  case buildSlice t n parts =>
    simp only [evOp, Option.map_eq_some_iff, Prod.mk.injEq] at hv
    obtain ⟨⟨r0, b0⟩, hr, rfl, rfl, rfl⟩ := hv
    refine ⟨?_, rfl⟩
    unfold buildSliceA at hr
    split at hr
    · simp only [Option.bind_eq_some_iff] at hr
      obtain ⟨e, _, sz, _, z, _, hr⟩ := hr
      split at hr
      · simp at hr
      · simp only [Option.map_eq_some_iff, newBox, Prod.mk.injEq] at hr
        obtain ⟨cs, _, _, rfl⟩ := hr
        exact ⟨cs, rfl⟩
    · simp at hr
theorem load_new {t : TypeId} {b : Bx} {z : List AV} {y : AV} (hap : apartV (.bp b.length 0) y = true) : loadA P t (b ++ [z]) y = loadA P t b y := by
  cases y with
  | bp c' off' =>
    have hne : b.length ≠ c' := by simpa [apartV] using hap
    simp only [loadA]
    rcases Nat.lt_or_ge c' b.length with h | h
    · rw [List.getElem?_append_left h]
    · rw [List.getElem?_eq_none (by simp; omega), List.getElem?_eq_none (by omega)]
  | ip l' _ => rfl
  | v _ => rfl
  | _ => simp [apartV] at hap
theorem isLd_load {op : Op} (h : isLd op = true) : ∃ t a, op = .load t a := by
  cases op <;> simp [isLd] at h
  exact ⟨_, _, rfl⟩

theorem load_apart {t t' : TypeId} {b b' : Bx} {a x y : AV} (hs : storeA P t' b a x = some b') (hap : apartV a y = true) : loadA P t b' y = loadA P t b y := by
  unfold storeA at hs
  split at hs
  · rename_i c off n hsz
    rw [Option.bind_eq_some_iff] at hs
    obtain ⟨l, h1, h2⟩ := hs
    split at h2
    · simp only [Option.some.injEq] at h2
      subst h2
      cases y with
      | bp c' off' =>
        have hne : c ≠ c' := by simpa [apartV] using hap
        simp only [loadA, List.getElem?_set_ne hne]
      | ip l' _ => rfl
      | v _ => rfl
      | _ => simp [apartV] at hap
    · simp at h2
  · simp at hs

/-- a 'load' sees the same ahead of stores that lie apart from it, and behind them -/
theorem Two.seen (D : DrawOk P md ops) (T : Two P md E N n0 ops env bx env' bx' e2 b1 b2 rs) {t : TypeId} {y : AV} {j1 : Nat} : ∀ {j2 : Nat}, j1 ≤ j2 → j2 ≤ ops.size →
    (∀ (k : Nat) (o : Oper), j1 ≤ k → k < j2 → ops[k]? = some o → mcl P md o.op = 2 → isSt o.op = true ∧ ∀ x, adr (e2 k) (b2 k) o.op = some (true, x) → apartV x y = true) → loadA P t (b2 j2) y = loadA P t (b2 j1) y
  | 0, h, _, _ => by rw [show j1 = 0 by omega]
  | j2 + 1, h, hn, hc => by
    rcases Nat.lt_or_ge j2 j1 with h1 | h1
    · rw [show j1 = j2 + 1 by omega]
    · rw [← Two.seen D T h1 (by omega) fun k o hk hk2 ho => hc k o hk (by omega) ho]
      have ho : ops[j2]? = some ops[j2] := Array.getElem?_eq_getElem (by omega)
      by_cases h2 : mcl P md ops[j2].op = 2
      · obtain ⟨hst, hap⟩ := hc j2 _ h1 (by omega) ho h2
        rcases T.st j2 _ ho with hs | hs
        · unfold StepR at hs
          split at hs
          · rcases hs with ⟨_, en1, g1, _⟩ | ⟨_, _, _, g⟩
            · rcases isSt_cases hst with ⟨t', a, x, he⟩ | hmk
              · rw [he] at g1 hap
                simp only [evOp, Option.map_eq_some_iff, Prod.mk.injEq] at g1
                obtain ⟨b', g1, _, _, rfl⟩ := g1
                exact load_apart g1 (hap _ rfl)
              · obtain ⟨⟨z, hz⟩, ha⟩ := mk_new hmk g1
                rw [hz]
                exact load_new (hap _ ha)
            · rw [g]
          · rw [hs.2]
        · rw [hs.2.2]
      · rw [Two.same D T (j1 := j2) (j2 := j2 + 1) (by omega) hn fun k o hk hk2 hok => by
          have : k = j2 := by omega
          subst this
          rw [ho] at hok
          simp only [Option.some.injEq] at hok
          subst hok
          exact h2]

/-- what makes boxes leaves the others -/
theorem Two.kept (D : DrawOk P md ops) (T : Two P md E N n0 ops env bx env' bx' e2 b1 b2 rs) {x : Nat} {z : List AV} : ∀ {j : Nat}, j ≤ ops.size →
    (∀ (k : Nat) (o : Oper), k < j → ops[k]? = some o → mcl P md o.op = 2 → isMk o.op = true) → (b2 0)[x]? = some z → (b2 j)[x]? = some z
  | 0, _, _, h => h
  | j + 1, hj, hc, h => by
    have h1 : (b2 j)[x]? = some z := Two.kept D T (j := j) (by omega) (fun k o hk ho => hc k o (by omega) ho) h
    have ho : ops[j]? = some ops[j] := Array.getElem?_eq_getElem (by omega)
    by_cases h2 : mcl P md ops[j].op = 2
    · rcases T.st j _ ho with hs | hs
      · unfold StepR at hs
        split at hs
        · rcases hs with ⟨_, en1, g1, _⟩ | ⟨_, _, _, g⟩
          · obtain ⟨⟨w, hw⟩, _⟩ := mk_new (hc j _ (by omega) ho h2) g1
            rw [hw, List.getElem?_append_left (List.getElem?_eq_some_iff.mp h1).1]
            exact h1
          · rw [g]; exact h1
        · rw [hs.2]; exact h1
      · rw [hs.2.2]; exact h1
    · rw [← Two.same D T (j1 := j) (j2 := j + 1) (by omega) hj fun k o hk hk2 hok => by
        have : k = j := by omega
        subst this
        rw [ho] at hok
        simp only [Option.some.injEq] at hok
        subst hok
        exact h2]
      exact h1

theorem Two.agree (D : DrawOk P md ops) (T : Two P md E N n0 ops env bx env' bx' e2 b1 b2 rs) {L : Nat → Bool} {i t : Nat} (hi : i ≤ ops.size)
    (h1 : ∀ k, k < ops.size → dstOf ops k = some t → (L k = true ↔ k < i)) (h2 : ∀ k, k < ops.size → hOf ops k = true → dstOf ops k = some t → k < i) :
    lastF (fun k => L k && (dstOf ops k == some t)) rs (Sy.get env t) ops.size = Sy.get (e2 i) t := by
  rw [T.get t i hi]
  by_cases hx : ∃ k, k < ops.size ∧ hOf ops k = true ∧ dstOf ops k = some t
  · obtain ⟨k, hk, hh, hd⟩ := hx
    have ho : ops[k]? = some ops[k] := Array.getElem?_eq_getElem hk
    have hh' : hoist ops[k].op = true := by simpa [hOf, ho] using hh
    have hd' : ops[k].dst = some t := by simpa [dstOf, ho] using hd
    have only : ∀ k', k' < ops.size → dstOf ops k' = some t → k' = k := by
      intro k' hk' hdk
      have ho' : ops[k']? = some ops[k'] := Array.getElem?_eq_getElem hk'
      have hdk' : ops[k'].dst = some t := by simpa [dstOf, ho'] using hdk
      rcases Nat.lt_trichotomy k' k with h | h | h
      · have := D.h1 k' k _ _ h ho' ho hh' t hd'
        simp [touches, hdk'] at this
      · exact h
      · exact absurd hdk' (D.h2 k k' _ _ h ho ho' hh' t hd')
    rw [lastF_last (j := k) hk (by simp [hd, (h1 k hk hd).mpr (h2 k hk hh hd)]) fun k' h3 h4 => by
      cases hq : dstOf ops k' == some t
      · simp
      · have := only k' h4 (by simpa using hq); omega]
    rw [lastF_none (n := i) fun k' hk' => by
      cases hq : dstOf ops k' == some t
      · simp
      · have := only k' (by omega) (by simpa using hq)
        subst this
        simp [hh]]
    rw [lastF_last (j := k) hk (by simp [hd, hh]) fun k' h3 h4 => by
      cases hq : dstOf ops k' == some t
      · simp
      · have := only k' h4 (by simpa using hq); omega]
  · have hno : ∀ k, k < ops.size → dstOf ops k = some t → hOf ops k = false := by
      intro k hk hd
      cases hh : hOf ops k
      · rfl
      · exact absurd ⟨k, hk, hh, hd⟩ hx
    rw [lastF_none (p := fun k => hOf ops k && (dstOf ops k == some t)) fun k hk => by
      cases hq : dstOf ops k == some t
      · simp
      · simp [hno k hk (by simpa using hq)]]
    rw [lastF_upto hi fun k hk hk2 => by
      cases hq : dstOf ops k == some t
      · simp
      · have := h1 k hk2 (by simpa using hq)
        cases hL : L k
        · simp
        · have := this.mp hL; omega]
    exact lastF_congr fun k hk => by
      cases hq : dstOf ops k == some t
      · simp
      · have hq' : dstOf ops k = some t := by simpa using hq
        simp [hno k (by omega) hq', (h1 k (by omega) hq').mpr hk]
end
end
end Go.Sy
