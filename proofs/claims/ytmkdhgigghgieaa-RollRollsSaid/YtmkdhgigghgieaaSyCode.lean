/-
  The reader's code, and its functions, against the machine's.
-/
import Derived.Test.YtmkdhgigghgieaaSyReg
namespace Go.Sy

section
variable {ds : List Deferred} {P : Program} {md : FuncId → Md} {E : FnA} {N n0 : Nat}

def Ex.to : Ex → Exit
  | .normal => .normal
  | .exit id => .exit id
  | .ret => .ret

/-- the least number of rounds -/
theorem least (p : Nat → Prop) : ∀ n, p n → ∃ m, p m ∧ ∀ k, p k → m ≤ k := by
  intro n
  induction n using Nat.strongRecOn with
  | _ n ih =>
    intro hn
    by_cases h : ∃ m, m < n ∧ p m
    · obtain ⟨m, hm, hp⟩ := h
      exact ih m hm hp
    · exact ⟨n, hn, fun k hk => by
        rcases Nat.lt_or_ge k n with h1 | h1
        · exact absurd ⟨k, h1, hk⟩ h
        · exact h1⟩

open Classical in
/-- a loop of so many rounds -/
theorem wp_rounds {c : Code} {Q : Exit → Act → World → Prop} (J : Nat → Act → World → Prop) {n : Nat} {a : Act} {w : World} (h0 : J n a w)
    (round : ∀ n a w, J n a w → c.wp P (Exit.then (fun a' w' => ∃ m, m < n ∧ J m a' w') Q) a w) : (Code.loop c).wp P Q a w := by
  refine wp_loop (fun a w => ∃ n, J n a w) (fun a w => if h : ∃ n, J n a w then Classical.choose (least (fun n => J n a w) _ h.choose_spec) else 0) ⟨n, h0⟩ ?_
  intro a w hI
  have hs := Classical.choose_spec (least (fun n => J n a w) _ hI.choose_spec)
  refine wp_mono (round _ a w hs.1) fun e a' w' hq => ?_
  cases e <;> try exact hq
  obtain ⟨m, hm, hJ⟩ := hq
  refine ⟨⟨m, hJ⟩, ?_⟩
  rw [dif_pos hI, dif_pos (⟨m, hJ⟩ : ∃ n, J n a' w')]
  exact Nat.lt_of_le_of_lt ((Classical.choose_spec (least (fun n => J n a' w') _ (Exists.choose_spec (⟨m, hJ⟩ : ∃ n, J n a' w')))).2 m hJ) hm

theorem get_head {env : Env} {f : Nat → AV} (t : Nat) : get (env.map fun p => (p.1, f p.1)) t = f t ∨ get (env.map fun p => (p.1, f p.1)) t = .junk := by
  induction env with
  | nil => exact .inr rfl
  | cons p env ih =>
    simp only [List.map_cons, get]
    split
    · rename_i e; subst e; exact .inl rfl
    · exact ih

theorem get_filter {env : Env} {l : List Nat} (t : Nat) : get (env.filter fun p => l.contains p.1) t = get env t ∨ get (env.filter fun p => l.contains p.1) t = .junk := by
  induction env with
  | nil => exact .inr rfl
  | cons p env ih =>
    rw [List.filter_cons]
    obtain ⟨k, x⟩ := p
    split
    · simp only [get]
      split
      · exact .inl rfl
      · exact ih
    · rename_i hn
      simp only [get]
      split
      · rename_i e
        subst e
        right
        have : ∀ env : Env, get (env.filter fun p => l.contains p.1) k = .junk := by
          intro env
          induction env with
          | nil => rfl
          | cons q env ih =>
            rw [List.filter_cons]
            split
            · rename_i hq
              simp only [get]
              split
              · rename_i e
                rw [e] at hq
                exact absurd hq hn
              · exact ih
            · exact ih
        exact this env
      · exact ih

theorem ER.prune {G : Gh} {w : World} {β : Beta} {env : Env} {a : Act} (h : ER ds G w β N env a) (k : Option (List Nat)) : ER ds G w β N (Sy.prune k env) a := by
  cases k with
  | none => exact h
  | some l =>
    refine ⟨h.sz, h.df, fun t => ?_⟩
    simp only [Sy.prune]
    rcases get_filter (env := env) (l := l) t with e | e
    · rw [e]; exact h.vr t
    · rw [e]; exact .junk _

theorem Ext.len {G : Gh} {w w' : World} {β β' : Beta} {n : Nat} (h : Ext G (fun b => decide (b < n)) w β w' β') (hn : n ≤ β.length) : n ≤ β'.length := by
  rcases Nat.eq_zero_or_pos n with h0 | h0
  · omega
  · obtain ⟨p, this, _⟩ := h.bt (n - 1) _ (by simp; omega) (List.getElem?_eq_getElem (by omega))
    have := (List.getElem?_eq_some_iff.mp this).1
    omega

theorem evCode_wp (hE : ∀ f args bx r bx', E f args bx = some (r, bx') → Sound P f args bx r bx') {k : Option (List Nat)} {n : Nat} {G : Gh} : ∀ (c : Code) {s s' : S} {ex : Ex} {w : World} {β : Beta} {a : Act} {Q : Exit → Act → World → Prop}, drawsOk P md c = true →
    n0 ≤ s.bx.length → evCode P md E N k n n0 c s = some (ex, s') → MR G w β s.bx → ER ds G w β N s.env a →
    (∀ a' w' β', Ext G (fun b => decide (b < n0)) w β w' β' → MR G w' β' s'.bx → ER ds G w' β' N s'.env a' → Q ex.to a' w') → c.wp P Q a w := by
  have hlen : ∀ {w w' : World} {β β' : Beta} {bx bx' : Bx}, n0 ≤ bx.length → MR G w β bx → Ext G (fun b => decide (b < n0)) w β w' β' → MR G w' β' bx' → n0 ≤ bx'.length := by
    intro w w' β β' bx bx' h1 h2 h3 h4
    have := h3.len (by rw [h2.len]; exact h1)
    rw [h4.len] at this
    exact this
  intro c
  induction c with
  | skip =>
    intro s s' ex w β a Q _ _ h hM hR hQ
    simp only [evCode, Option.some.injEq, Prod.mk.injEq] at h
    obtain ⟨rfl, rfl⟩ := h
    exact wp_skip (hQ a w β (.refl _ _ _ _) hM hR)
  | label l =>
    intro s s' ex w β a Q _ _ h hM hR hQ
    simp only [evCode, Option.some.injEq, Prod.mk.injEq] at h
    obtain ⟨rfl, rfl⟩ := h
    exact wp_label (hQ a w β (.refl _ _ _ _) hM hR)
  | exit id =>
    intro s s' ex w β a Q _ _ h hM hR hQ
    simp only [evCode, Option.some.injEq, Prod.mk.injEq] at h
    obtain ⟨rfl, rfl⟩ := h
    exact wp_exit (hQ a w β (.refl _ _ _ _) hM hR)
  | ret =>
    intro s s' ex w β a Q _ _ h hM hR hQ
    simp only [evCode, Option.some.injEq, Prod.mk.injEq] at h
    obtain ⟨rfl, rfl⟩ := h
    exact wp_ret (hQ a w β (.refl _ _ _ _) hM hR)
  | seq x y ihx ihy =>
    intro s s' ex w β a Q hd hn h hM hR hQ
    simp only [drawsOk, Bool.and_eq_true] at hd
    simp only [evCode] at h
    refine wp_seq ?_
    unfold seqA at h
    split at h
    · rename_i s1 h1
      refine ihx hd.1 hn h1 hM hR fun a1 w1 β1 e1 m1 r1 => ?_
      exact ihy hd.2 (hlen hn hM e1 m1) h m1 r1 fun a2 w2 β2 e2 m2 r2 => hQ a2 w2 β2 (e1.trans e2) m2 r2
    · rename_i hne
      refine ihx hd.1 hn h hM hR fun a1 w1 β1 e1 m1 r1 => ?_
      cases ex with
      | normal => exact absurd h (hne s')
      | exit id => exact hQ a1 w1 β1 e1 m1 r1
      | ret => exact hQ a1 w1 β1 e1 m1 r1
  | cond c x y ihx ihy =>
    intro s s' ex w β a Q hd hn h hM hR hQ
    simp only [drawsOk, Bool.and_eq_true] at hd
    simp only [evCode] at h
    unfold condA at h
    split at h
    · rename_i t ht
      have hc : a.eval c = .bool t := by
        have := hR.opnd c
        rw [ht] at this
        generalize a.eval c = y at this ⊢
        cases this; rfl
      refine wp_cond hc ?_
      cases t
      · exact ihy hd.2 hn h hM hR hQ
      · exact ihx hd.1 hn h hM hR hQ
    · simp at h
  | block id c ih =>
    intro s s' ex w β a Q hd hn h hM hR hQ
    simp only [drawsOk] at hd
    simp only [evCode] at h
    refine wp_block ?_
    unfold blockA at h
    split at h
    · rename_i i s1 h1
      refine ih hd hn h1 hM hR fun a1 w1 β1 e1 m1 r1 => ?_
      split at h
      · rename_i e
        simp only [Option.some.injEq, Prod.mk.injEq] at h
        obtain ⟨rfl, rfl⟩ := h
        simp only [Ex.to, Exit.inBlock, e, if_true]
        exact hQ a1 w1 β1 e1 m1 r1
      · rename_i e
        simp only [Option.some.injEq, Prod.mk.injEq] at h
        obtain ⟨rfl, rfl⟩ := h
        simp only [Ex.to, Exit.inBlock, e, if_false]
        exact hQ a1 w1 β1 e1 m1 r1
    · rename_i hne
      refine ih hd hn h hM hR fun a1 w1 β1 e1 m1 r1 => ?_
      cases ex with
      | normal => exact hQ a1 w1 β1 e1 m1 r1
      | exit i => exact absurd h (hne i s')
      | ret => exact hQ a1 w1 β1 e1 m1 r1
  | loop c ih =>
    intro s s' ex w β a Q hd hn h hM hR hQ
    simp only [drawsOk] at hd
    simp only [evCode] at h
    refine wp_rounds (fun j a1 w1 => ∃ s1 β1, n0 ≤ s1.bx.length ∧ Ext G (fun b => decide (b < n0)) w β w1 β1 ∧ MR G w1 β1 s1.bx ∧ ER ds G w1 β1 N s1.env a1 ∧ iter (hdA k s) (evCode P md E N k n n0 c) j s1 = some (ex, s')) (n := n) ⟨s, β, hn, .refl _ _ _ _, hM, hR, h⟩ ?_
    rintro j a1 w1 ⟨s1, β1, hn1, e1, m1, r1, h1⟩
    cases j with
    | zero => simp [iter] at h1
    | succ j =>
      simp only [iter] at h1
      unfold seqA at h1
      split at h1
      · rename_i s2 h2
        refine ih hd hn1 h2 m1 r1 fun a2 w2 β2 e2 m2 r2 => ?_
        by_cases hk : kpB k = true
        · have hh : hdA k s = headK s := by unfold hdA; rw [if_pos hk]
          rw [hh] at h1
          rw [hh]
          refine ⟨j, by omega, headK s s2, β2, hlen hn1 m1 e2 m2, e1.trans e2, m2, ⟨r2.sz, r2.df, fun t => ?_⟩, h1⟩
          simp only [headK]
          rcases get_head (env := s.env) (f := fun t => get s2.env t) t with e | e
          · rw [e]; exact r2.vr t
          · rw [e]; exact .junk _
        have hh : hdA k s = head s := by unfold hdA; rw [if_neg hk]
        rw [hh] at h1
        rw [hh]
        obtain ⟨m3, e3⟩ := m2.trunc s.bx.length
        have e3' : Ext G (fun b => decide (b < n0)) w2 β2 w2 (β2.take s.bx.length) := e3.weaken fun b hb => by simp at hb ⊢; omega
        have hn2 := hlen hn1 m1 e2 m2
        refine ⟨j, by omega, head s s2, β2.take s.bx.length, by simp [head]; omega, (e1.trans e2).trans e3', m3, ⟨r2.sz, r2.df, fun t => ?_⟩, h1⟩
        simp only [head]
        rcases get_head (env := s.env) (f := fun t => (get s2.env t).keep (fun b => decide (b < s.bx.length))) t with e | e
        · rw [e]; exact e3.vrk (r2.vr t)
        · rw [e]; exact .junk _
      · rename_i hne
        refine ih hd hn1 h1 m1 r1 fun a2 w2 β2 e2 m2 r2 => ?_
        cases ex with
        | normal => exact absurd h1 (hne s')
        | exit id => exact hQ a2 w2 β2 (e1.trans e2) m2 r2
        | ret => exact hQ a2 w2 β2 (e1.trans e2) m2 r2
  | region id ops draw =>
    intro s s' ex w β a Q hd hn h hM hR hQ
    simp only [drawsOk, Bool.or_eq_true, Bool.not_eq_true'] at hd
    simp only [evCode, Option.map_eq_some_iff, Prod.mk.injEq] at h
    obtain ⟨⟨env1, bx1⟩, h1, rfl, rfl⟩ := h
    exact evReg_wp (fun hdr => hd.resolve_left (by simp [hdr])) hn hE h1 hM hR fun a1 w1 β1 e1 m1 r1 => hQ a1 w1 β1 e1 m1 (r1.prune k)
  | _ =>
    intro s s' ex w β a Q _ _ h
    simp [evCode] at h

/-! ## a function's results -/
theorem loadA_var {G : Gh} {w : World} {β : Beta} {bx : Bx} (hM : MR G w β bx) {t : TypeId} {a r : AV} {v : Value} (hv : VR w (im G w β) β a v)
    (h : loadA P t bx a = some r) : ∃ a0 y, v = .pointer (some a0) ∧ (loadVar t a0).run P w = .ok y w ∧ VR w (im G w β) β r y := by
  unfold loadA at h
  split at h
  · rename_i b off
    rw [Option.bind_eq_some_iff] at h
    obtain ⟨l, hb, h⟩ := h
    cases hv with
    | bp _ _ blk o hβ =>
      obtain ⟨y, h1, h2, _⟩ := part_load (hM.lies hβ hb) h
      exact ⟨_, y, rfl, h1, h2⟩
  · rename_i l f
    cases hv with
    | ip _ _ blk o cv ha hc hi =>
      have hl : Lies w (im G w β) β blk o l := fun i x hx => ⟨cv i, (hc i (List.getElem?_eq_some_iff.mp hx).1).1, (hc i (List.getElem?_eq_some_iff.mp hx).1).2, hM.inner (hi i x hx)⟩
      obtain ⟨y, h1, h2, _⟩ := part_load hl h
      exact ⟨_, y, rfl, h1, h2⟩
  · rename_i b o m
    rw [Option.bind_eq_some_iff] at h
    obtain ⟨l, hb, h⟩ := h
    cases hv with
    | gp _ _ _ e g x hβ hx hm =>
      have hl : Lies w (im G w β) β x.blk (x.off + o) ((l.drop o).take m) := (hM.grs b e g l hβ hb).lies hx hm
      obtain ⟨y, h1, h2, _⟩ := part_load hl h
      exact ⟨_, y, rfl, h1, h2⟩
  · simp at h

def resOne (tmps : Array Value) : ResultVar → Sem Value
  | .tmp t => pure (tmps.getD t undef)
  | .cell b t => do loadVar t (← asAddr (tmps.getD b undef))

theorem resL_ok {G : Gh} {w : World} {β : Beta} {bx : Bx} (hM : MR G w β bx) {env : Env} {a : Act} (hR : ER ds G w β N env a) : ∀ (l : List ResultVar) {r : List AV}, resL P env bx l = some r →
    ∃ vs : List Value, (l.mapM (resOne a.tmps)).run P w = Result.ok vs w ∧ vs.length = r.length ∧ ∀ (i : Nat) (x : AV) (v : Value), r[i]? = some x → vs[i]? = some v → VR w (im G w β) β x v
  | [], r, h => by
    simp only [resL, Option.some.injEq] at h
    subst h
    exact ⟨[], by simp, rfl, fun i x v hx => by simp at hx⟩
  | .tmp t :: l, r, h => by
    simp only [resL, Option.map_eq_some_iff] at h
    obtain ⟨r0, h, rfl⟩ := h
    obtain ⟨vs, g1, g2, g3⟩ := resL_ok hM hR l h
    refine ⟨a.tmps.getD t undef :: vs, by rw [List.mapM_cons]; simp [g1, resOne], by simp [g2], fun i x v hx hv => ?_⟩
    rcases i with _ | i
    · rw [List.getElem?_cons_zero, Option.some.injEq] at hx hv
      subst hx; subst hv
      exact hR.vr t
    · exact g3 i x v (by simpa using hx) (by simpa using hv)
  | .cell b t :: l, r, h => by
    simp only [resL, Option.bind_eq_some_iff, Option.map_eq_some_iff] at h
    obtain ⟨x0, hx0, r0, h, rfl⟩ := h
    obtain ⟨vs, g1, g2, g3⟩ := resL_ok hM hR l h
    obtain ⟨a0, v0, k0, k1, k2⟩ := loadA_var hM (hR.vr b) hx0
    refine ⟨v0 :: vs, ?_, by simp [g2], fun i x v hx hv => ?_⟩
    · rw [List.mapM_cons]
      simp only [resOne, k0, asAddr, Sem.run_bind, Sem.run_pure, Result.andThen_ok, k1, g1]
    · rcases i with _ | i
      · rw [List.getElem?_cons_zero, Option.some.injEq] at hx hv
        subst hx; subst hv
        exact k2
      · exact g3 i x v (by simpa using hx) (by simpa using hv)

theorem results_ok {G : Gh} {w : World} {β : Beta} {bx : Bx} (hM : MR G w β bx) {env : Env} {a : Act} (hR : ER ds G w β N env a) {fn : Func} {r : List AV} (h : resL P env bx fn.results.toList = some r) :
    ∃ v, (results fn a.tmps).run P w = .ok v w ∧ VR w (im G w β) β (resA r) v := by
  obtain ⟨vs, g1, g2, g3⟩ := resL_ok hM hR _ h
  have hmap : (fn.results.mapM (resOne a.tmps)).run P w = .ok vs.toArray w := by
    rw [Array.mapM_eq_mapM_toList]
    simp [g1]
  have hrun : ∀ v, (results fn a.tmps).run P w = .ok v w ↔ (if h : vs.toArray.size = 1 then vs.toArray[0] else .tuple vs.toArray) = v := by
    intro v
    have : results fn a.tmps = (do let vs ← fn.results.mapM (resOne a.tmps); pure (if h : vs.size = 1 then vs[0] else .tuple vs) : Sem Value) := by
      unfold results resOne
      rfl
    rw [this]
    simp only [Sem.run_bind, hmap, Result.andThen_ok, Sem.run_pure, Result.ok.injEq, and_true]
  rcases r with _ | ⟨x, _ | ⟨y, r⟩⟩ <;> rcases vs with _ | ⟨v, _ | ⟨u, vs⟩⟩ <;> try (simp at g2; done)
  · exact ⟨.tuple #[], (hrun _).mpr (by simp), .tup [] #[] rfl fun i x v hx => by simp at hx⟩
  · exact ⟨v, (hrun v).mpr (by simp), g3 0 x v rfl rfl⟩
  · refine ⟨.tuple (v :: u :: vs).toArray, (hrun _).mpr (by simp), ?_⟩
    show VR w (im G w β) β (.tup (x :: y :: r)) _
    refine .tup _ _ (by simpa using g2) fun i x' v' hx hv => g3 i x' v' hx (by simpa using hv)

/-- A function of the reader's is sound if what it hangs on is. -/
theorem evFn_sound {cx : Cx} {ext : FnA} (hext : ∀ f args bx r bx', ext f args bx = some (r, bx') → Sound cx.P f args bx r bx') : ∀ (n : Nat) (f : FuncId) (args : List AV) (bx : Bx) (r : AV) (bx' : Bx), evFn cx ext n f args bx = some (r, bx') → Sound cx.P f args bx r bx'
  | 0, f, args, bx, r, bx', h => by simp [evFn] at h
  | n + 1, f, args, bx, r, bx', h => by
    unfold evFn at h
    split at h
    · rename_i r0 h0
      simp only [Option.some.injEq] at h
      subst h
      exact hext _ _ _ _ _ h0
    · split at h
      · simp at h
      · rename_i fn hf
        split at h
        · simp at h
        · rename_i c hc
          split at h
          · simp at h
          · rename_i hok
            simp only [not_or, Bool.not_eq_false, Nat.not_lt] at hok
            obtain ⟨hn, hd, hname⟩ := hok
            refine ⟨fun vs w => ?_, fun G w β vs hz hM hs hv => ?_⟩
            · unfold callFunc
              simp only [Sem.run_bind, run_program, Result.andThen_ok, hf]
              rw [if_neg (by simpa using hname), if_neg (by simp [hc])]
              simp
            · have hR : ER [] G w β fn.ntmps (args.zipIdx.map fun p => (p.2, p.1)) { tmps := vs ++ Array.replicate (fn.ntmps - vs.size) undef, defers := [] } := by
                refine ⟨by simp; omega, rfl, fun t => ?_⟩
                have hget : ∀ (l : List AV) (k t : Nat), get ((l.zipIdx k).map fun p => (p.2, p.1)) t = if k ≤ t then (l[t - k]?).getD .junk else .junk := by
                  intro l
                  induction l with
                  | nil => intro k t; simp [get]
                  | cons x l ih =>
                    intro k t
                    simp only [List.zipIdx_cons, List.map_cons, get, ih]
                    split
                    · rename_i e; subst e; simp
                    · rename_i e
                      by_cases h1 : k ≤ t
                      · have : t - k = (t - (k + 1)) + 1 := by omega
                        rw [if_pos (by omega), if_pos h1, this, List.getElem?_cons_succ]
                      · rw [if_neg (by omega), if_neg h1]
                rw [hget args 0 t, if_pos (Nat.zero_le _), Nat.sub_zero]
                cases ha : args[t]? with
                | none => exact .junk _
                | some x =>
                  have ht : t < vs.size := by have := (List.getElem?_eq_some_iff.mp ha).1; omega
                  rw [Array.getD_eq_getD_getElem?, Array.getElem?_append_left ht]
                  simp only [Option.getD_some]
                  rw [Array.getElem?_eq_getElem ht]
                  exact hv t x _ ha (Array.getElem?_eq_getElem ht)
              have fin : ∀ (ex : Ex) (s : S), (ex = .normal ∨ ex = .ret) → evCode cx.P (cx.md f) (evFn cx ext n) fn.ntmps (cx.kp f) n bx.length c ⟨args.zipIdx.map fun p => (p.2, p.1), bx⟩ = some (ex, s) →
                  (resL cx.P s.env s.bx fn.results.toList).map (fun l => (resA l, s.bx)) = some (r, bx') →
                  Calls cx.P f vs w fun e w' => ∃ v β', e = .returned v ∧ Ext G (fun b => decide (b < bx.length)) w β w' β' ∧ MR G w' β' bx' ∧ VR w' (im G w' β') β' r v := by
                intro ex s hex h1 h2
                simp only [Option.map_eq_some_iff, Prod.mk.injEq] at h2
                obtain ⟨l, h2, rfl, rfl⟩ := h2
                refine calls_of_wp hf hc ?_
                refine evCode_wp (n0 := bx.length) (N := fn.ntmps) (s := ⟨args.zipIdx.map fun p => (p.2, p.1), bx⟩) (fun f args bx r bx' h => evFn_sound hext n f args bx r bx' h) c hd (Nat.le_refl _) h1 hM hR fun a' w' β' e1 m1 r1 => ?_
                obtain ⟨v, g1, g2⟩ := results_ok (P := cx.P) m1 r1 h2
                have : a'.defers = [] ∧ ∃ v, (results fn a'.tmps).run cx.P w' = .ok v w' ∧ ∃ v1 β', Ending.returned v = .returned v1 ∧ Ext G (fun b => decide (b < bx.length)) w β w' β' ∧ MR G w' β' s.bx ∧ VR w' (im G w' β') β' (resA l) v1 :=
                  ⟨r1.df, v, g1, v, β', rfl, e1, m1, g2⟩
                rcases hex with rfl | rfl
                · exact this
                · exact this
              split at h
              · rename_i s h1
                exact fin .normal s (.inl rfl) h1 h
              · rename_i s h1
                exact fin .ret s (.inr rfl) h1 h
              · simp at h
end
end Go.Sy
