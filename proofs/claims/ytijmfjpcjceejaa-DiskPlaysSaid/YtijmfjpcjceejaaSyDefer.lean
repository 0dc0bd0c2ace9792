/-
  The reader's functions that lay one deferred closure in their straight code.
-/
import Derived.Test.YtijmfjpcjceejaaSyTool
import Derived.Defers
namespace Go.Sy

def outS {α : Type} (r : Option (Ex × S)) (k : S → Option α) : Option α :=
  match r with
  | some (.normal, s) => k s
  | some (.ret, s) => k s
  | _ => none

def argE (l : List AV) : Env := l.zipIdx.map fun p => (p.2, p.1)

/-- 'R0; A; defer closure g over the slots caps (slot t); c3': its reading -/
def evD (P : Program) (md : FuncId → Md) (E : FnA) (n : Nat) (fn : Func) (R0 A c3 cG : Code) (t : Nat) (g : FuncId) (caps : List Nat) (NG : Nat) (args : List AV) (bx : Bx) : Option (AV × Bx) :=
  if args.length ≤ fn.ntmps then
  match evCode P md E fn.ntmps none n bx.length R0 ⟨argE args, bx⟩ with
  | some (.normal, s0) =>
    match evCode P md E fn.ntmps none n bx.length A s0 with
    | some (.ret, s) => (resL P s.env s.bx fn.results.toList).map fun l => (resA l, s.bx)
    | some (.normal, s) =>
      outS (evCode P md E fn.ntmps none n s.bx.length c3 ⟨(t, .fn g [] (caps.map (get s.env))) :: s.env, s.bx⟩) fun s3 =>
      outS (evCode P md E NG none n s3.bx.length cG ⟨argE ((caps.map (get s.env)).map (AV.keep fun b => decide (b < s.bx.length))), s3.bx⟩) fun s4 =>
        (resL P (s3.env.map fun p => (p.1, p.2.keep fun b => decide (b < s3.bx.length))) s4.bx fn.results.toList).map fun l => (resA l, s4.bx)
    | _ => none
  | _ => none
  else none

section
variable {P : Program} {md : FuncId → Md} {E : FnA} {n : Nat}

/-- a call's frame, when it begins -/
theorem ER.start {G : Gh} {w : World} {β : Beta} {args : List AV} {vs : Array Value} {N : Nat} (hn : args.length ≤ N) (hs : vs.size = args.length)
    (hv : ∀ (i : Nat) (x : AV) (v : Value), args[i]? = some x → vs[i]? = some v → VR w (im G w β) β x v) :
    ER [] G w β N (argE args) { tmps := vs ++ Array.replicate (N - vs.size) undef, defers := [] } := by
  refine ⟨by simp; omega, rfl, fun t => ?_⟩
  have hget : ∀ (l : List AV) (k t : Nat), get ((l.zipIdx k).map fun p => (p.2, p.1)) t = if k ≤ t then (l[t - k]?).getD .junk else .junk := by
    intro l
    induction l with
    | nil => intro k t; simp [get]
    | cons x l ih =>
      intro k t
      simp only [List.zipIdx_cons, List.map_cons, get, ih]
      split
      · rename_i e; subst e; simp
      · rename_i e
        by_cases h1 : k ≤ t
        · have : t - k = (t - (k + 1)) + 1 := by omega
          rw [if_pos (by omega), if_pos h1, this, List.getElem?_cons_succ]
        · rw [if_neg (by omega), if_neg h1]
  unfold argE
  rw [hget args 0 t, if_pos (Nat.zero_le _), Nat.sub_zero]
  cases ha : args[t]? with
  | none => exact .junk _
  | some x =>
    have ht : t < vs.size := by have := (List.getElem?_eq_some_iff.mp ha).1; omega
    rw [Array.getD_eq_getD_getElem?, Array.getElem?_append_left ht]
    simp only [Option.getD_some]
    rw [Array.getElem?_eq_getElem ht]
    exact hv t x _ ha (Array.getElem?_eq_getElem ht)

theorem outS_some {α : Type} {r : Option (Ex × S)} {k : S → Option α} {y : α} (h : outS r k = some y) : ∃ ex s, r = some (ex, s) ∧ (ex = .normal ∨ ex = .ret) ∧ k s = some y := by
  unfold outS at h
  split at h
  · exact ⟨_, _, rfl, .inl rfl, h⟩
  · exact ⟨_, _, rfl, .inr rfl, h⟩
  · simp at h

theorem evD_sound (hE : ∀ f args bx r bx', E f args bx = some (r, bx') → Sound P f args bx r bx') {f g : FuncId} {fn fg : Func} {R0 A c3 cG : Code} {t id : Nat} {caps : List Nat} {o1 o2 : Oper}
    (hf : P.funcs[f]? = some fn) (hname : fn.name ≠ "runtime.NumGoroutine") (hb : fn.body = some (.seq R0 (.seq A (.seq (.region id #[o1, o2] false) c3))))
    (ho1 : o1.dst = some t ∧ o1.op = .makeFunc (.func g) #[] (caps.map Operand.tmp).toArray ∧ o1.guard = none) (ht : t < fn.ntmps)
    (ho2 : o2.dst = none ∧ o2.op = .defer ⟨.value (.tmp t), #[], #[]⟩ ∧ o2.guard = none)
    (hg : P.funcs[g]? = some fg) (hgn : fg.name ≠ "runtime.NumGoroutine") (hgb : fg.body = some cG) (hgr : fg.results = #[]) (hgc : caps.length ≤ fg.ntmps)
    (d0 : drawsOk P md R0 = true) (d1 : drawsOk P md A = true) (d3 : drawsOk P md c3 = true) (dG : drawsOk P md cG = true)
    {args : List AV} {bx bx' : Bx} {r : AV} (h : evD P md E n fn R0 A c3 cG t g caps fg.ntmps args bx = some (r, bx')) : Sound P f args bx r bx' := by
  have enter : ∀ (f : FuncId) (fn : Func) (c : Code) (vs : Array Value) (w : World), P.funcs[f]? = some fn → fn.name ≠ "runtime.NumGoroutine" → fn.body = some c → (callFunc f vs).run P w = .ok (.enter f vs) w := by
    intro f fn c vs w hf hname hc
    unfold callFunc
    simp only [Sem.run_bind, run_program, Result.andThen_ok, hf]
    rw [if_neg (by simpa using hname), if_neg (by simp [hc])]
    simp
  have hlen : ∀ {G : Gh} {w w' : World} {β β' : Beta} {bx bx' : Bx} {n0 : Nat}, n0 ≤ bx.length → MR G w β bx → Ext G (fun b => decide (b < n0)) w β w' β' → MR G w' β' bx' → n0 ≤ bx'.length := by
    intro G w w' β β' bx bx' n0 h1 h2 h3 h4
    have := h3.len (by rw [h2.len]; exact h1)
    rw [h4.len] at this
    exact this
  unfold evD at h
  split at h
  case isFalse => simp at h
  rename_i hargs
  refine ⟨fun vs w => enter f fn _ vs w hf hname hb, fun G w β vs hz hM hs hv => ?_⟩
  split at h
  case h_2 => simp at h
  rename_i s0 h0
  refine calls_of_wp_defers hf hb (wp_seq ?_)
  refine evCode_wp (N := fn.ntmps) (n0 := bx.length) (s := ⟨argE args, bx⟩) hE R0 d0 (Nat.le_refl _) h0 hM (ER.start hargs hs hv) fun a1 w1 β1 e1 m1 r1 => ?_
  refine wp_seq (Q := bodyPostD P fn _) ?_
  have l0 : bx.length ≤ s0.bx.length := hlen (Nat.le_refl _) hM e1 m1
  split at h
  · -- it returns ahead of the 'defer'
    rename_i s h1
    simp only [Option.map_eq_some_iff, Prod.mk.injEq] at h
    obtain ⟨l, h2, rfl, rfl⟩ := h
    refine evCode_wp (N := fn.ntmps) (n0 := bx.length) (s := s0) hE A d1 l0 h1 m1 r1 fun a2 w2 β2 e2 m2 r2 => ?_
    show Leaves P fn a2.tmps _ a2.defers .returning w2
    rw [r2.df]
    obtain ⟨v, g1, g2⟩ := results_ok (P := P) m2 r2 h2
    exact ⟨v, g1, v, β2, rfl, e1.trans e2, m2, g2⟩
  · rename_i s h1
    obtain ⟨ex3, s3, h3, hx3, h⟩ := outS_some h
    obtain ⟨ex4, s4, h4, hx4, h⟩ := outS_some h
    simp only [Option.map_eq_some_iff, Prod.mk.injEq] at h
    obtain ⟨l, h5, rfl, rfl⟩ := h
    refine evCode_wp (N := fn.ntmps) (n0 := bx.length) (s := s0) hE A d1 l0 h1 m1 r1 fun a2 w2 β2 e2 m2 r2 => ?_
    have l2 : bx.length ≤ s.bx.length := hlen l0 m1 e2 m2
    refine wp_seq (Q := bodyPostD P fn _) (wp_region_list ?_)
    -- the closure
    obtain ⟨dst1, op1, ty1, pos1, aft1, gd1⟩ := o1
    obtain ⟨dst2, op2, ty2, pos2, aft2, gd2⟩ := o2
    simp only at ho1 ho2
    obtain ⟨rfl, rfl, rfl⟩ := ho1
    obtain ⟨rfl, rfl, rfl⟩ := ho2
    unfold wpList
    rw [if_pos (by simp [Region.wanted])]
    let cv : Array Value := (caps.map fun x => a2.tmps.getD x undef).toArray
    have hcv : ((caps.map Operand.tmp).toArray.map a2.eval) = cv := by
      simp [cv, Act.eval]
    refine .inl (wp_value (s := Instr.makeFunc (.func g) #[] cv) (v := .func (.func g) #[] cv) (w' := w2) ?_ rfl ?_)
    · show (do pure (.value (← Instr.makeFunc (.func g) (#[].map a2.eval) ((caps.map Operand.tmp).toArray.map a2.eval))) : Sem Next) = _
      rw [hcv, show (#[] : Array Operand).map a2.eval = #[] by simp]
    have hput : Sy.put fn.ntmps (some t) (.fn g [] (caps.map (get s.env))) s.env = some ((t, .fn g [] (caps.map (get s.env))) :: s.env) := by
      simp only [Sy.put]
      rw [if_pos ht]
    have hvfn : VR w2 (im G w2 β2) β2 (.fn g [] (caps.map (get s.env))) (.func (.func g) #[] cv) := by
      refine .fn g _ _ _ _ rfl (by simp [cv]) (fun i x y hx => by simp at hx) fun i x y hx hy => ?_
      rw [List.getElem?_map, Option.map_eq_some_iff] at hx
      obtain ⟨c, hc, rfl⟩ := hx
      have : y = a2.tmps.getD c undef := by
        simp only [cv, List.getElem?_toArray, List.getElem?_map, hc, Option.map_some, Option.some.injEq] at hy
        exact hy.symm
      rw [this]
      exact r2.vr c
    have r3 := r2.put hput hvfn
    unfold wpList
    rw [if_pos (by simp [Region.wanted])]
    have hev : (a2.put (some t) (.func (.func g) #[] cv)).eval (.tmp t) = .func (.func g) #[] cv := by
      show (a2.tmps.setIfInBounds t (.func (.func g) #[] cv)).getD t undef = _
      rw [Array.getD_eq_getD_getElem?, Array.getElem?_setIfInBounds_self_of_lt (by rw [r2.sz]; exact ht)]
      rfl
    refine .inl ?_
    unfold Oper.wp
    rw [show (execOp (a2.put (some t) (.func (.func g) #[] cv)).eval ⟨none, .defer ⟨.value (.tmp t), #[], #[]⟩, ty2, pos2, aft2, none⟩).run P w2 = .ok (.defer { target := .fn (.func g) cv, args := #[] }) w2 by
      show (do pure (.defer (← Deferred.ofValue ((a2.put (some t) (.func (.func g) #[] cv)).eval (.tmp t)) (#[].map _))) : Sem Next).run P w2 = _
      rw [hev]
      simp [Deferred.ofValue]]
    rw [Oper.upon_defer]
    unfold wpList
    have r4 : ER [{ target := .fn (.func g) cv, args := #[] }] G w2 β2 fn.ntmps ((t, .fn g [] (caps.map (get s.env))) :: s.env) ({ (a2.put (some t) (.func (.func g) #[] cv)) with defers := { target := .fn (.func g) cv, args := #[] } :: (a2.put (some t) (.func (.func g) #[] cv)).defers }.put none undef) := by
      refine ⟨r3.sz, ?_, r3.vr⟩
      show { target := .fn (.func g) cv, args := #[] } :: (a2.put (some t) (.func (.func g) #[] cv)).defers = _
      rw [r3.df]
    show Code.wp P c3 (bodyPostD P fn _) _ w2
    refine evCode_wp (N := fn.ntmps) (n0 := s.bx.length) (s := ⟨(t, .fn g [] (caps.map (get s.env))) :: s.env, s.bx⟩) hE c3 d3 (Nat.le_refl _) h3 m2 r4 fun a3 w3 β3 e3 m3 r5 => ?_
    have l3 : s.bx.length ≤ s3.bx.length := hlen (Nat.le_refl _) m2 e3 m3
    have fin : Leaves P fn a3.tmps (fun e w' => ∃ v β', e = .returned v ∧ Ext G (fun b => decide (b < bx.length)) w β w' β' ∧ MR G w' β' s4.bx ∧ VR w' (im G w' β') β' (resA l) v) a3.defers .returning w3 := by
      rw [r5.df]
      refine leaves_cons (f := g) (args := cv) (by simp) (by
        show (callFunc g (#[] ++ cv)).run P w3 = _
        rw [show #[] ++ cv = cv by simp]
        exact enter g fg _ cv w3 hg hgn hgb) ?_
      refine (callsD_of_wp (R := fun e w5 => e = .returned (.tuple #[]) ∧ ∃ β5, Ext G (fun b => decide (b < s3.bx.length)) w3 β3 w5 β5 ∧ MR G w5 β5 s4.bx) hg hgb ?_).mono ?_
      · have hcs : cv.size = caps.length := by simp [cv]
        refine evCode_wp (N := fg.ntmps) (n0 := s3.bx.length) (s := ⟨argE ((caps.map (get s.env)).map (AV.keep fun b => decide (b < s.bx.length))), s3.bx⟩) hE cG dG (Nat.le_refl _) h4 m3 (ER.start (by simpa using hgc) (by simp [hcs]) fun i x v hx hv => ?_) fun a4 w4 β4 e4 m4 r6 => ?_
        · rw [List.getElem?_map, Option.map_eq_some_iff] at hx
          obtain ⟨x0, hx, rfl⟩ := hx
          rw [List.getElem?_map, Option.map_eq_some_iff] at hx
          obtain ⟨c, hc, rfl⟩ := hx
          have : v = a2.tmps.getD c undef := by
            simp only [cv, List.getElem?_toArray, List.getElem?_map, hc, Option.map_some, Option.some.injEq] at hv
            exact hv.symm
          rw [this]
          exact e3.vrk (r2.vr c)
        · have hpost : a4.defers = [] ∧ ∃ v, (results fg a4.tmps).run P w4 = .ok v w4 ∧ (Ending.returned v = .returned (.tuple #[]) ∧ ∃ β5, Ext G (fun b => decide (b < s3.bx.length)) w3 β3 w4 β5 ∧ MR G w4 β5 s4.bx) := by
            refine ⟨r6.df, .tuple #[], ?_, rfl, β4, e4, m4⟩
            unfold results
            rw [hgr]
            simp
          rcases hx4 with rfl | rfl
          · exact hpost
          · exact hpost
      · rintro e u' w5 ⟨rfl, rfl, β5, e5, m5⟩
        show Leaves P fn a3.tmps _ [] .returning w5
        have r7 : ER [{ target := .fn (.func g) cv, args := #[] }] G w5 β5 fn.ntmps (s3.env.map fun p => (p.1, p.2.keep fun b => decide (b < s3.bx.length))) a3 := by
          refine ⟨r5.sz, r5.df, fun t => ?_⟩
          rw [get_keep]
          exact e5.vrk (r5.vr t)
        obtain ⟨v, g1, g2⟩ := results_ok (P := P) m5 r7 h5
        refine ⟨v, g1, v, β5, rfl, (e1.trans e2).trans ((e3.weaken fun b hb => ?_).trans (e5.weaken fun b hb => ?_)), m5, g2⟩
        · simp at hb ⊢; omega
        · simp at hb ⊢; omega
    rcases hx3 with rfl | rfl
    · exact fin
    · exact fin
  · simp at h

/-! ## the same, in a shape that reduces well -/
def condO {α : Type} (c : AV) (a b : Option α) : Option α :=
  match c with
  | .v (.bool t) => if t then a else b
  | _ => none
def finK {α : Type} (r : Option (Ex × S)) (K : S → Option α) (X : Nat → S → Option α) (R : S → Option α) : Option α :=
  match r with
  | some (.normal, s) => K s
  | some (.exit i, s) => X i s
  | some (.ret, s) => R s
  | none => none
/-- code without loops, with what comes behind it -/
def evKR {α : Type} (P : Program) (md : FuncId → Md) (E : FnA) (N : Nat) (k : Option (List Nat)) (n0 : Nat) : Code → S → (S → Option α) → (Nat → S → Option α) → (S → Option α) → Option α
  | .skip, s, K, _, _ => K s
  | .label _, s, K, _, _ => K s
  | .seq a b, s, K, X, R => evKR P md E N k n0 a s (fun s => evKR P md E N k n0 b s K X R) X R
  | .cond c a b, s, K, X, R => condO (opnd s.env c) (evKR P md E N k n0 a s K X R) (evKR P md E N k n0 b s K X R)
  | .block id c, s, K, X, R => evKR P md E N k n0 c s K (fun i s => if i = id then K s else X i s) R
  | .exit id, s, _, X, _ => X id s
  | .ret, s, _, _, R => R s
  | .region _ ops draw, s, K, _, _ => (evReg P md E N n0 ops draw s.env s.bx).bind fun r => K ⟨prune k r.1, r.2⟩
  | _, _, _, _, _ => none
theorem evKR_eq {α : Type} {N : Nat} {k : Option (List Nat)} {n0 : Nat} {y : α} : ∀ (c : Code) (s : S) (K : S → Option α) (X : Nat → S → Option α) (R : S → Option α), evKR P md E N k n0 c s K X R = some y → finK (evCode P md E N k n n0 c s) K X R = some y := by
  intro c
  induction c with
  | skip => intro s K X R h; exact h
  | label l => intro s K X R h; exact h
  | exit id => intro s K X R h; exact h
  | ret => intro s K X R h; exact h
  | seq a b iha ihb =>
    intro s K X R h
    simp only [evKR] at h
    have h1 := iha s _ X R h
    simp only [evCode]
    unfold finK at h1
    split at h1
    · rename_i s1 e
      simp only [e, seqA]
      exact ihb s1 K X R h1
    · rename_i i s1 e
      simp only [e, seqA, finK]
      exact h1
    · rename_i s1 e
      simp only [e, seqA, finK]
      exact h1
    · simp at h1
  | cond c a b iha ihb =>
    intro s K X R h
    simp only [evKR] at h
    simp only [evCode]
    unfold condO at h
    split at h
    · rename_i t ht
      simp only [ht, condA]
      split at h
      · rename_i e
        rw [if_pos e]
        exact iha s K X R h
      · rename_i e
        rw [if_neg e]
        exact ihb s K X R h
    · simp at h
  | block id c ih =>
    intro s K X R h
    simp only [evKR] at h
    have h1 := ih s _ _ R h
    simp only [evCode]
    unfold finK at h1
    split at h1
    · rename_i s1 e
      simp only [e, blockA, finK]
      exact h1
    · rename_i i s1 e
      simp only [e, blockA]
      simp only at h1
      split at h1
      · rename_i hi
        rw [if_pos hi]
        exact h1
      · rename_i hi
        rw [if_neg hi]
        exact h1
    · rename_i s1 e
      simp only [e, blockA, finK]
      exact h1
    · simp at h1
  | region id ops draw =>
    intro s K X R h
    simp only [evKR, Option.bind_eq_some_iff] at h
    obtain ⟨r, h1, h2⟩ := h
    simp only [evCode, h1, Option.map_some, finK]
    exact h2
  | _ => intro s K X R h; simp [evKR] at h

def evDK (P : Program) (md : FuncId → Md) (E : FnA) (fn : Func) (R0 A c3 cG : Code) (t : Nat) (g : FuncId) (caps : List Nat) (NG : Nat) (args : List AV) (bx : Bx) : Option (AV × Bx) :=
  if args.length ≤ fn.ntmps then
  evKR P md E fn.ntmps none bx.length R0 ⟨argE args, bx⟩ (fun s0 =>
    evKR P md E fn.ntmps none bx.length A s0 (fun s =>
      evKR P md E fn.ntmps none s.bx.length c3 ⟨(t, .fn g [] (caps.map (get s.env))) :: s.env, s.bx⟩ (fun s3 =>
        evKR P md E NG none s3.bx.length cG ⟨argE ((caps.map (get s.env)).map (AV.keep fun b => decide (b < s.bx.length))), s3.bx⟩
          (fun s4 => (resL P (s3.env.map fun p => (p.1, p.2.keep fun b => decide (b < s3.bx.length))) s4.bx fn.results.toList).map fun l => (resA l, s4.bx)) (fun _ _ => none)
          (fun s4 => (resL P (s3.env.map fun p => (p.1, p.2.keep fun b => decide (b < s3.bx.length))) s4.bx fn.results.toList).map fun l => (resA l, s4.bx))) (fun _ _ => none)
      (fun s3 =>
        evKR P md E NG none s3.bx.length cG ⟨argE ((caps.map (get s.env)).map (AV.keep fun b => decide (b < s.bx.length))), s3.bx⟩
          (fun s4 => (resL P (s3.env.map fun p => (p.1, p.2.keep fun b => decide (b < s3.bx.length))) s4.bx fn.results.toList).map fun l => (resA l, s4.bx)) (fun _ _ => none)
          (fun s4 => (resL P (s3.env.map fun p => (p.1, p.2.keep fun b => decide (b < s3.bx.length))) s4.bx fn.results.toList).map fun l => (resA l, s4.bx))))
      (fun _ _ => none) (fun s => (resL P s.env s.bx fn.results.toList).map fun l => (resA l, s.bx)))
    (fun _ _ => none) (fun _ => none)
  else none

theorem finK_out {α : Type} {r : Option (Ex × S)} {k : S → Option α} {y : α} (h : finK r k (fun _ _ => none) k = some y) : outS r k = some y := by
  unfold finK at h
  unfold outS
  split at h
  · exact h
  · simp at h
  · exact h
  · simp at h

theorem evDK_eq {fn : Func} {R0 A c3 cG : Code} {t : Nat} {g : FuncId} {caps : List Nat} {NG : Nat} {args : List AV} {bx : Bx} {y : AV × Bx}
    (h : evDK P md E fn R0 A c3 cG t g caps NG args bx = some y) : evD P md E n fn R0 A c3 cG t g caps NG args bx = some y := by
  unfold evDK at h
  unfold evD
  split at h
  case isFalse => simp at h
  rename_i ha
  rw [if_pos ha]
  have h0 := evKR_eq (n := n) _ _ _ _ _ h
  unfold finK at h0
  split at h0
  · rename_i s0 e0
    rw [e0]
    simp only
    have h1 := evKR_eq (n := n) _ _ _ _ _ h0
    unfold finK at h1
    split at h1
    · rename_i s e1
      rw [e1]
      simp only
      have h2 := finK_out (evKR_eq (n := n) _ _ _ _ _ h1)
      obtain ⟨ex, s3, e3, hx, h3⟩ := outS_some h2
      have h4 := finK_out (evKR_eq (n := n) _ _ _ _ _ h3)
      rw [e3]
      rcases hx with rfl | rfl
      · exact h4
      · exact h4
    · simp at h1
    · rename_i s e1
      rw [e1]
      exact h1
    · simp at h1
  · simp at h0
  · simp at h0
  · simp at h0
end
end Go.Sy
