/-
  The reader's 'copy', 'clear' and 'append', against the machine's.
-/
import Derived.Test.YtmkdhgigghgieaaSyOp5
import Derived.Laws.Append
namespace Go.Sy

section
variable {P : Program} {G : Gh} {w : World} {β : Beta} {bx : Bx}

mutual
theorem keep_cong (q1 q2 : Nat → Bool) : ∀ (v : AV), (∀ b, q1 b = q2 b ∨ v.free b = true ∨ (v.keep q2).free b = true) → v.keep q1 = v.keep q2
  | .agg l, h => by simp only [AV.keep]; rw [keepL_cong q1 q2 l (fun b => by simpa only [AV.keep, AV.free] using h b)]
  | .tup l, h => by simp only [AV.keep]; rw [keepL_cong q1 q2 l (fun b => by simpa only [AV.keep, AV.free] using h b)]
  | .bp b o, h => by
    have := h b
    simp only [AV.keep, AV.free] at this ⊢
    cases h1 : q1 b <;> cases h2 : q2 b <;> simp [h1, h2, AV.free] at this ⊢
  | .bsl b o n e, h => by
    have := h b
    simp only [AV.keep, AV.free] at this ⊢
    cases h1 : q1 b <;> cases h2 : q2 b <;> simp [h1, h2, AV.free] at this ⊢
  | .mp b, h => by
    have := h b
    simp only [AV.keep, AV.free] at this ⊢
    cases h1 : q1 b <;> cases h2 : q2 b <;> simp [h1, h2, AV.free] at this ⊢
  | .gs b n e, h => by
    have := h b
    simp only [AV.keep, AV.free] at this ⊢
    cases h1 : q1 b <;> cases h2 : q2 b <;> simp [h1, h2, AV.free] at this ⊢
  | .gp b o m, h => by
    have := h b
    simp only [AV.keep, AV.free] at this ⊢
    cases h1 : q1 b <;> cases h2 : q2 b <;> simp [h1, h2, AV.free] at this ⊢
  | .fn f pre caps, h => by
    simp only [AV.keep]
    rw [keepL_cong q1 q2 pre (fun b => ?_), keepL_cong q1 q2 caps (fun b => ?_)]
    · have := h b
      simp only [AV.keep, AV.free, Bool.and_eq_true] at this
      exact this.imp id fun h => h.imp And.right And.right
    · have := h b
      simp only [AV.keep, AV.free, Bool.and_eq_true] at this
      exact this.imp id fun h => h.imp And.left And.left
  | .v _, _ => rfl
  | .sl _ _ _, _ => rfl
  | .ip _ _, _ => rfl
  | .ns, _ => rfl
  | .junk, _ => rfl
theorem keepL_cong (q1 q2 : Nat → Bool) : ∀ (l : List AV), (∀ b, q1 b = q2 b ∨ AV.freeL b l = true ∨ AV.freeL b (AV.keepL q2 l) = true) → AV.keepL q1 l = AV.keepL q2 l
  | [], _ => rfl
  | x :: r, h => by
    simp only [AV.keepL]
    rw [keep_cong q1 q2 x (fun b => ?_), keepL_cong q1 q2 r (fun b => ?_)]
    · have := h b
      simp only [AV.keepL, AV.freeL, Bool.and_eq_true] at this
      exact this.imp id fun h => h.imp And.right And.right
    · have := h b
      simp only [AV.keepL, AV.freeL, Bool.and_eq_true] at this
      exact this.imp id fun h => h.imp And.left And.left
end
mutual
theorem keep_all : ∀ (v : AV), v.keep (fun _ => true) = v
  | .agg l => by simp only [AV.keep]; rw [keepL_all l]
  | .tup l => by simp only [AV.keep]; rw [keepL_all l]
  | .bp b o => rfl
  | .bsl b o n e => rfl
  | .mp b => rfl
  | .gs _ _ _ => rfl
  | .gp _ _ _ => rfl
  | .fn f pre caps => by simp only [AV.keep]; rw [keepL_all pre, keepL_all caps]
  | .v _ => rfl
  | .sl _ _ _ => rfl
  | .ip _ _ => rfl
  | .ns => rfl
  | .junk => rfl
theorem keepL_all : ∀ (l : List AV), AV.keepL (fun _ => true) l = l
  | [] => rfl
  | x :: r => by simp only [AV.keepL]; rw [keep_all x, keepL_all r]
end
mutual
theorem keep_keep (p q : Nat → Bool) : ∀ (v : AV), (v.keep p).keep q = v.keep (fun b => p b && q b)
  | .agg l => by simp only [AV.keep]; rw [keepL_keep p q l]
  | .tup l => by simp only [AV.keep]; rw [keepL_keep p q l]
  | .bp b o => by simp only [AV.keep]; by_cases h1 : p b = true <;> by_cases h2 : q b = true <;> simp [AV.keep, h1, h2]
  | .bsl b o n e => by simp only [AV.keep]; by_cases h1 : p b = true <;> by_cases h2 : q b = true <;> simp [AV.keep, h1, h2]
  | .mp b => by simp only [AV.keep]; by_cases h1 : p b = true <;> by_cases h2 : q b = true <;> simp [AV.keep, h1, h2]
  | .gs b n e => by simp only [AV.keep]; by_cases h1 : p b = true <;> by_cases h2 : q b = true <;> simp [AV.keep, h1, h2]
  | .gp b o m => by simp only [AV.keep]; by_cases h1 : p b = true <;> by_cases h2 : q b = true <;> simp [AV.keep, h1, h2]
  | .fn f pre caps => by simp only [AV.keep]; rw [keepL_keep p q pre, keepL_keep p q caps]
  | .v _ => rfl
  | .sl _ _ _ => rfl
  | .ip _ _ => rfl
  | .ns => rfl
  | .junk => rfl
theorem keepL_keep (p q : Nat → Bool) : ∀ (l : List AV), AV.keepL q (AV.keepL p l) = AV.keepL (fun b => p b && q b) l
  | [] => rfl
  | x :: r => by simp only [AV.keepL]; rw [keep_keep p q x, keepL_keep p q r]
end

/-- What an operation that yields a value means for the reader. -/
def Done (P : Program) (G : Gh) (n0 : Nat) (w : World) (β : Beta) (env : Env) (q : Nat → Bool) (s : Sem Value) (r : AV) (env' : Env) (bx' : Bx) : Prop :=
  ∃ v w' β', s.run P w = .ok v w' ∧ Ext G (fun b => decide (b < n0)) w β w' β' ∧ MR G w' β' bx' ∧ VR w' (im G w' β') β' r v ∧
    (∀ t : Nat, get env' t = (get env t).keep q) ∧ ∀ (x : AV) (y : Value), VR w (im G w β) β x y → VR w' (im G w' β') β' (x.keep q) y

theorem New.done {n0 : Nat} {env : Env} {s : Sem Value} {r : AV} {bx' : Bx} (h : New P G w β s r bx') : Done P G n0 w β env (fun _ => true) s r env bx' := by
  obtain ⟨v, w', β', h1, h2, h3, h4⟩ := h
  exact ⟨v, w', β', h1, h2.weaken (fun _ _ => rfl), h3, h4, fun t => (keep_all _).symm, fun x y hy => by rw [keep_all]; exact h2.vr hy⟩

theorem copyA_ok (hM : MR G w β bx) {t u : TypeId} {ts : Array TypeId} {x y r : AV} {bx' : Bx} {vx vy : Value} (h : copyA P bx t x y = some (r, bx')) (ht : ts[0]? = some t)
    (hx : VR w (im G w β) β x vx) (hy : VR w (im G w β) β y vy) : New P G w β (Builtin.copy_ ts u #[vx, vy]) r bx' := by
  unfold copyA at h
  split at h
  · rename_i b off n e
    split at h
    · rename_i hsl
      obtain ⟨et, hu, hel⟩ := isSl_spec hsl
      simp only [hel, Option.bind_some] at h
      split at h
      · rename_i hs
        simp only [Option.bind_eq_some_iff] at h
        obtain ⟨⟨m, ys⟩, hr, l, hl, h⟩ := h
        simp only at h
        split at h
        · rename_i hle
          simp only [Option.some.injEq, Prod.mk.injEq] at h
          obtain ⟨rfl, rfl⟩ := h
          obtain ⟨f1, cs, f2, f3, f4, f5⟩ := firstCells_ok (P := P) hM (k := min m n) hr hle.2 (Nat.min_le_left _ _) hy
          have hlen : (ys.take (min m n * e)).length = min m n * e := by
            rw [List.length_take, hle.2]
            exact Nat.min_eq_left (Nat.mul_le_mul_right _ (Nat.min_le_left _ _))
          have hrun : ∀ (base : Option Addr) (c : Nat) (w' : World), (match base with | some a => (Go.storeCells a cs.toList).run P w = .ok () w' | none => w' = w) →
              (Builtin.copy_ ts u #[.slice base n c, vy]).run P w = .ok (.int .i64 (min m n)) w' := by
            intro base c w' hst
            have hmin : ((Nat.min m n : Nat) : Int) = min (m : Int) (n : Int) := by show ((min m n : Nat) : Int) = _; omega
            have f2' : (Builtin.firstCells e (Nat.min m n) vy).run P w = .ok cs w := f2
            simp only [Builtin.copy_, ht, List.getElem?_toArray, List.getElem?_cons_zero, List.getElem?_cons_succ, Sem.run_bind, run_under hu, Result.andThen_ok, f1, run_szA hs, f2']
            cases base with
            | none => subst hst; simp [goInt, hmin]
            | some a => simp only at hst; simp [hst, goInt, hmin]
          cases hx with
          | bsl _ _ _ _ blk ob a cap hβ hnc he ha hcp =>
            rcases ha with rfl | ⟨h0, _⟩
            · obtain ⟨w', r1, r2, r3⟩ := hM.storeCells (P := P) (xs := ys.take (min m n * e)) (vs := cs.toList) (off := off) hβ hl (by simp only [Array.length_toList, f3, hlen])
                (by rw [hlen]; have := Nat.mul_le_mul_right e (Nat.min_le_right m n); omega) (fun v hv => by obtain ⟨i, hi⟩ := List.getElem?_of_mem hv; exact f4 i v (by simpa using hi)) (fun i x v hx hv => f5 i x v hx (by simpa using hv))
              exact ⟨_, w', β, hrun _ _ _ r1, r3, r2, .v _⟩
            · have hn0 : min m n = 0 := by omega
              have hcs : cs = #[] := by
                have : cs.size = 0 := by rw [f3, hn0]; simp
                exact Array.eq_empty_of_size_eq_zero this
              refine ⟨_, w, β, hrun _ _ w (by simp [hcs, Go.storeCells]), .refl _ _ _ _, ?_, .v _⟩
              rw [hn0]
              simp only [Nat.zero_mul, List.take_zero, storeL]
              rw [List.set_getElem?_self' hl]
              exact hM
          | bslU _ _ a hβ =>
            have hn0 : min m 0 = 0 := by omega
            have hcs : cs = #[] := by
              have : cs.size = 0 := by rw [f3, hn0]
              exact Array.eq_empty_of_size_eq_zero this
            refine ⟨_, w, β, hrun _ _ w (by cases a <;> simp [hcs, Go.storeCells]), .refl _ _ _ _, ?_, .v _⟩
            simp only [Nat.mul_zero, List.take_zero, storeL]
            rw [List.set_getElem?_self' hl]
            exact hM
        · simp at h
      · simp at h
    · simp at h
  · simp at h

theorem clearA_ok (hM : MR G w β bx) {t u : TypeId} {ts : Array TypeId} {x : AV} {bx' : Bx} {vx : Value} (h : clearA P bx t x = some bx') (ht : ts[0]? = some t)
    (hx : VR w (im G w β) β x vx) : New P G w β (Builtin.clear_ ts u #[vx]) (.v (.tuple #[])) bx' := by
  unfold clearA at h
  split at h
  · rename_i b off n e
    split at h
    · rename_i hsl
      obtain ⟨et, hu, hel⟩ := isSl_spec hsl
      simp only [hel, Option.bind_some] at h
      split at h
      · rename_i hs
        simp only [Option.bind_eq_some_iff] at h
        obtain ⟨z, hz, l, hl, h⟩ := h
        split at h
        · rename_i hle
          simp only [Option.some.injEq] at h
          subst h
          obtain ⟨v, sz', h1, h2, h3, h4, h5⟩ := zeros_ok (w := w) (im0 := im G w β) (β := β) hz
          rw [hs] at h2
          simp only [Option.some.injEq] at h2
          subst h2
          obtain ⟨g1, g2, g3⟩ := h5 (n * v.cells.size) v.cells (.inl rfl) (by rw [h3])
          have skip : ∀ (a : Option Addr) (c : Nat), n = 0 → (Builtin.clear_ ts u #[.slice a n c]).run P w = .ok (.tuple #[]) w := by
            intro a c h0
            subst h0
            cases a <;> simp [Builtin.clear_, ht, run_under hu]
          have z0 : n = 0 → z = [] := fun h0 => List.length_eq_zero_iff.mp (by rw [h4, h0]; simp)
          cases hx with
          | bsl _ _ _ _ blk ob a cap hβ hnc he ha hcp =>
            by_cases h0 : n = 0
            · refine ⟨_, w, β, skip _ _ h0, .refl _ _ _ _, ?_, .v _⟩
              rw [z0 h0, storeL, List.set_getElem?_self' hl]
              exact hM
            · have ha' : a = ⟨blk, ob + off, none⟩ := ha.resolve_right (fun h => by omega)
              subst ha'
              obtain ⟨w', r1, r2, r3⟩ := hM.storeCells (P := P) (xs := z) (vs := ((Array.range (n * v.cells.size)).map fun i => v.cells[i % v.cells.size]!).toList) (off := off) hβ hl (by rw [Array.length_toList]; exact g1)
                (by rw [h4]; exact hle) (fun u hu => by obtain ⟨i, hi⟩ := List.getElem?_of_mem hu; exact g2 i u (by rw [Array.getElem?_toList] at hi; exact hi)) (fun i x u hx hu => g3 i x u hx (by rw [Array.getElem?_toList] at hu; exact hu))
              refine ⟨_, w', β, ?_, r3, r2, .v _⟩
              obtain ⟨k, rfl⟩ : ∃ k, n = k + 1 := ⟨n - 1, by omega⟩
              simp only [Builtin.clear_, ht, List.getElem?_toArray, List.getElem?_cons_zero, Sem.run_bind, run_under hu, Result.andThen_ok, h1, Builtin.zeroCells]
              rw [r1]
              rfl
          | bslU _ _ a hβ =>
            refine ⟨_, w, β, skip _ _ rfl, .refl _ _ _ _, ?_, .v _⟩
            rw [z0 rfl, storeL, List.set_getElem?_self' hl]
            exact hM
        · simp at h
      · simp at h
    · simp at h
  · simp at h

/-- what is told of some boxes is forgotten -/
theorem MR.clear (hM : MR G w β bx) (q : Nat → Bool) : MR G w β (bx.map fun l => l.map (AV.keep q)) := by
  refine ⟨by simpa using hM.len, hM.uniq, ?_, fun b k l hb hl => ?_, fun b e g l hb hl => ?_, hM.frle, hM.leold, hM.sz⟩
  case refine_2 =>
    rw [List.getElem?_map, Option.map_eq_some_iff] at hl
    obtain ⟨l0, hl, rfl⟩ := hl
    obtain ⟨es, cl, h1, h2⟩ := hM.maps b k l0 hb hl
    exact ⟨es, cl, h1, h2.map q fun x y hx => hx.keep q (fun f blk h => ⟨h, fun _ => rfl⟩) (fun b p _ _ h => ⟨p, h, .refl p⟩) (fun b blk o c E fz _ _ h => ⟨c, E, fz, h, rfl⟩)⟩
  case refine_3 =>
    rw [List.getElem?_map, Option.map_eq_some_iff] at hl
    obtain ⟨l0, hl, rfl⟩ := hl
    exact (hM.grs b e g l0 hb hl).keep q
  intro b blk o l hb hl
  rw [List.getElem?_map, Option.map_eq_some_iff] at hl
  obtain ⟨l0, hl, rfl⟩ := hl
  obtain ⟨c, E, fz, h1, h2, h3, h4, h5⟩ := hM.born b blk o l0 hb hl
  refine ⟨c, E, fz, h1, by simpa using h2, h3, h4, ?_⟩
  intro i x y hx hy
  rw [List.getElem?_map, Option.map_eq_some_iff] at hx
  obtain ⟨x0, hx, rfl⟩ := hx
  exact (h5 i x0 y hx hy).keep q (fun f blk h => ⟨h, fun _ => rfl⟩) (fun b p _ _ h => ⟨p, h, .refl p⟩) (fun b blk o c E fz _ _ h => ⟨c, E, fz, h, rfl⟩)

/-- a box that lies somewhere else from now on -/
theorem MR.move (hM : MR G w β bx) {b : Nat} {l : List AV} (hl : bx[b]? = some l) (E : TypeId) {c pad : Array Value} {xs : List AV} (hc : c.size = xs.length)
    (hone : ∀ (i : Nat) (y : Value), (c ++ pad)[i]? = some y → y.oneCell' = true) (hv : ∀ (i : Nat) (x : AV) (y : Value), xs[i]? = some x → c[i]? = some y → VR w (im G w β) β x y) :
    MR G (w.alloc (.cells (c ++ pad) E)) (β.set b (.at w.heap.size 0)) ((bx.map fun l => l.map (AV.keep (· != b))).set b (xs.map (AV.keep (· != b)))) ∧
    Ext G (· != b) w β (w.alloc (.cells (c ++ pad) E)) (β.set b (.at w.heap.size 0)) := by
  have hlt : b < bx.length := (List.getElem?_eq_some_iff.mp hl).1
  have hltβ : b < β.length := by rw [hM.len]; exact hlt
  have hold : ∀ k, k < w.heap.size → (w.alloc (.cells (c ++ pad) E)).heap[k]? = w.heap[k]? := fun k hk => heap_alloc_old (h := hk) ..
  have hnew : (w.alloc (.cells (c ++ pad) E)).heap[w.heap.size]? = some (.cells (c ++ pad) E) := heap_alloc_new w _
  have hsize : (w.alloc (.cells (c ++ pad) E)).heap.size = w.heap.size + 1 := World.size_alloc ..
  have hbo : ∀ (b blk o : Nat), β[b]? = some (.at blk o) → blk < w.heap.size := by
    intro b blk o hb
    have hlt : b < bx.length := by have := (List.getElem?_eq_some_iff.mp hb).1; rw [hM.len] at this; exact this
    obtain ⟨c1, E1, fz1, h1, _⟩ := hM.born b blk o _ hb (List.getElem?_eq_getElem hlt)
    exact (Array.getElem?_eq_some_iff.mp h1).1
  have hget : ∀ (k : Nat) (p : Lie), (β.set b (.at w.heap.size 0))[k]? = some p → (k ≠ b ∧ β[k]? = some p) ∨ (k = b ∧ p = .at w.heap.size 0) := by
    intro k p hk
    by_cases e : k = b
    · subst e
      rw [List.getElem?_set_self hltβ] at hk
      simp only [Option.some.injEq] at hk
      exact .inr ⟨rfl, hk.symm⟩
    · rw [List.getElem?_set_ne (Ne.symm e)] at hk
      exact .inl ⟨e, hk⟩
  have hown : ∀ k, owned (β.set b (.at w.heap.size 0)) k → owned β k ∨ k = w.heap.size := by
    rintro k ⟨i, p, hb, hp⟩
    rcases hget i _ hb with ⟨_, h⟩ | ⟨_, h⟩
    · exact .inl ⟨i, p, h, hp⟩
    · subst h; exact .inr (Eq.symm hp)
  have hext : Ext G (· != b) w β (w.alloc (.cells (c ++ pad) E)) (β.set b (.at w.heap.size 0)) := by
    refine ⟨by omega, fun k hk _ => hold k (by have := hM.sz; omega), ?_, ?_, ?_, ?_, ⟨rfl, rfl, rfl⟩⟩
    · intro f k hi
      have hk : k < w.heap.size := by
        rcases hi with h | h
        · have : G.le k := by cases f <;> first | exact hM.frle _ h | exact h
          have := (hM.leold k this).1; have := hM.sz; omega
        · exact h.2.1
      refine ⟨hi.imp id fun h => ⟨h.1, by omega, fun ho => ?_⟩, fun j => cell_heap (hold k hk) j⟩
      rcases hown k ho with h1 | h1
      · exact h.2.2 h1
      · omega
    · refine .same fun k p hq hb => ?_
      rw [List.getElem?_set_ne (by simp at hq; exact fun e => hq e.symm)]; exact hb
    · intro k blk o c1 E1 fz1 _ hb hc1
      exact ⟨c1, fz1, by rw [hold blk (hbo k blk o hb), hc1], rfl⟩
    · intro k hk ho
      rcases hown k ho with h | h
      · exact h
      · have := hM.sz; omega
  refine ⟨⟨by simp [hM.len], ?_, ?_, ?_, ?_, hM.frle, ?_, by have := hM.sz; omega⟩, hext⟩
  · intro i i' k p p' hb hb' hp hp'
    rcases hget i _ hb with ⟨_, h⟩ | ⟨h, h2⟩ <;> rcases hget i' _ hb' with ⟨_, h'⟩ | ⟨h', h2'⟩
    · exact hM.uniq i i' k p p' h h' hp hp'
    · subst h2'; have := hM.lies_lt h hp; have : w.heap.size = k := hp'; omega
    · subst h2; have := hM.lies_lt h' hp'; have : w.heap.size = k := hp; omega
    · omega
  · intro i k o m hb hm
    rcases hget i _ hb with ⟨e, h⟩ | ⟨h, h2⟩
    · rw [List.getElem?_set_ne (Ne.symm e), List.getElem?_map, Option.map_eq_some_iff] at hm
      obtain ⟨m0, hm, rfl⟩ := hm
      obtain ⟨c1, E1, fz1, h1, h2, h3, h4, h5⟩ := hM.born i k o m0 h hm
      refine ⟨c1, E1, fz1, by rw [hold k (hbo i k o h), h1], by simpa using h2, h3, h4, ?_⟩
      intro j x y hx hy
      rw [List.getElem?_map, Option.map_eq_some_iff] at hx
      obtain ⟨x0, hx, rfl⟩ := hx
      exact hext.vrk (h5 j x0 y hx hy)
    · subst h
      simp at h2
      obtain ⟨rfl, rfl⟩ := h2
      rw [List.getElem?_set_self (by simpa using hlt)] at hm
      simp only [Option.some.injEq] at hm
      subst hm
      refine ⟨_, E, (0, 0), hnew, by simp; omega, .inl rfl, hone, fun j x y hx hy => ?_⟩
      rw [List.getElem?_map, Option.map_eq_some_iff] at hx
      obtain ⟨x0, hx, rfl⟩ := hx
      have hlt : j < xs.length := (List.getElem?_eq_some_iff.mp hx).1
      rw [Nat.zero_add, Array.getElem?_append_left (by omega)] at hy
      exact hext.vrk (hv j x0 y hx hy)
  · intro i k m hb hm
    rcases hget i _ hb with ⟨e, h⟩ | ⟨h, h2⟩
    · rw [List.getElem?_set_ne (Ne.symm e), List.getElem?_map, Option.map_eq_some_iff] at hm
      obtain ⟨m0, hm, rfl⟩ := hm
      obtain ⟨es, cl, h1, h2⟩ := hM.maps i k m0 h hm
      exact ⟨es, cl, by rw [hold k (hM.lies_lt h rfl), h1], h2.map _ fun _ _ h => hext.vrk h⟩
    · simp at h2
  · intro i e g m hb hm
    rcases hget i _ hb with ⟨e, h⟩ | ⟨h, h2⟩
    · rw [List.getElem?_set_ne (Ne.symm e), List.getElem?_map, Option.map_eq_some_iff] at hm
      obtain ⟨m0, hm, rfl⟩ := hm
      exact (hM.grsk h hm fun k hk _ => hold k hk).keep _
    · simp at h2
  · intro k hk
    refine ⟨(hM.leold k hk).1, fun ho => ?_⟩
    rcases hown k ho with h | h
    · exact (hM.leold k hk).2 h
    · have := (hM.leold k hk).1; have := hM.sz; omega

/-- a growing list has grown, or is new -/
theorem MR.regr (hM : MR G w β bx) {w' : World} {β' : Beta} {bx' : Bx} {b e : Nat} {h' : List GrE} {l' : List AV} (hsz : w.heap.size ≤ w'.heap.size) (hout : w'.os = w.os ∧ w'.output = w.output ∧ w'.tape = w.tape)
    (hb' : β'[b]? = some (.gr e h')) (hl' : bx'[b]? = some l') (hlen : β'.length = bx'.length) (hoth : ∀ i, i ≠ b → β'[i]? = β[i]? ∧ bx'[i]? = bx[i]?)
    (hold : β[b]? = none ∨ ∃ h, β[b]? = some (.gr e h) ∧ ∀ x ∈ h, x ∈ h') (hfr : ∀ x ∈ h', w.heap.size ≤ x.blk ∨ ∃ h, β[b]? = some (.gr e h) ∧ ∃ y ∈ h, y.blk = x.blk)
    (hheap : ∀ k, k < w.heap.size → (∀ x ∈ h', x.blk ≠ k) → w'.heap[k]? = w.heap[k]?) (hg : GrR w' e h' l') : MR G w' β' bx' ∧ Ext G allq w β w' β' := by
  have hcase : ∀ (i : Nat) (p : Lie), β'[i]? = some p → (i ≠ b ∧ β[i]? = some p) ∨ (i = b ∧ p = .gr e h') := by
    intro i p hi
    by_cases ei : i = b
    · subst ei
      rw [hb'] at hi
      simp only [Option.some.injEq] at hi
      exact .inr ⟨rfl, hi.symm⟩
    · rw [(hoth i ei).1] at hi
      exact .inl ⟨ei, hi⟩
  have hnew : ∀ x ∈ h', x.blk < w.heap.size → ∃ p, β[b]? = some p ∧ p.lies x.blk := by
    intro x hx hlt
    rcases hfr x hx with h | ⟨h, h1, y, hy, h2⟩
    · omega
    · exact ⟨_, h1, y, hy, h2⟩
  have hown : ∀ k, k < w.heap.size → owned β' k → owned β k := by
    rintro k hk ⟨i, p, hi, hp⟩
    rcases hcase i p hi with ⟨_, h⟩ | ⟨_, rfl⟩
    · exact ⟨i, p, h, hp⟩
    · obtain ⟨x, hx, rfl⟩ := hp
      obtain ⟨p, h1, h2⟩ := hnew x hx hk
      exact ⟨b, p, h1, h2⟩
  have hkeep : ∀ k, k < w.heap.size → (∀ p, β[b]? = some p → ¬ p.lies k) → w'.heap[k]? = w.heap[k]? := fun k hk hn => hheap k hk fun x hx ek => by
    obtain ⟨p, h1, h2⟩ := hnew x hx (ek ▸ hk)
    exact hn p h1 (ek ▸ h2)
  have hkb : ∀ (i k : Nat) (p : Lie), i ≠ b → β[i]? = some p → p.lies k → w'.heap[k]? = w.heap[k]? := fun i k p hi hp hk => hkeep k (hM.lies_lt hp hk) fun p' h1 h2 => hi (hM.uniq i b k p p' hp h1 hk h2)
  have hle : LeB allq β β' := by
    intro i p _ hi
    by_cases ei : i = b
    · subst ei
      rcases hold with h | ⟨h, h1, h2⟩
      · rw [h] at hi; simp at hi
      · rw [h1] at hi
        simp only [Option.some.injEq] at hi
        subst hi
        exact ⟨_, hb', .gr e h h' h2⟩
    · exact ⟨p, by rw [(hoth i ei).1]; exact hi, .refl p⟩
  have himlt : ∀ f k, im G w β f k → k < w.heap.size := by
    intro f k hi
    rcases hi with h | h
    · have : G.le k := by cases f <;> first | exact hM.frle _ h | exact h
      have := (hM.leold k this).1; have := hM.sz; omega
    · exact h.2.1
  have hext : Ext G allq w β w' β' := by
    refine ⟨hsz, fun k hk ho => hkeep k (by have := hM.sz; omega) fun p h1 h2 => ho ⟨b, p, h1, h2⟩, fun f k hi => ?_, hle, fun i k o c E fz _ hi hc => ?_, fun k hk ho => hown k (by have := hM.sz; omega) ho, hout⟩
    · have hk := himlt f k hi
      exact ⟨hi.imp id fun h => ⟨h.1, by omega, fun ho => h.2.2 (hown k hk ho)⟩, fun o => cell_heap (hkeep k hk fun p h1 h2 => hM.not_im hi ⟨b, p, h1, h2⟩) o⟩
    · have hne : i ≠ b := by
        rintro rfl
        rcases hold with h | ⟨h, h1, _⟩
        · rw [h] at hi; simp at hi
        · rw [h1] at hi; simp at hi
      exact ⟨c, fz, by rw [hkb i k _ hne hi rfl, hc], rfl⟩
  refine ⟨⟨hlen, ?_, ?_, ?_, ?_, hM.frle, fun k hk => ⟨(hM.leold k hk).1, fun ho => (hM.leold k hk).2 (hown k (by have := (hM.leold k hk).1; have := hM.sz; omega) ho)⟩, by have := hM.sz; omega⟩, hext⟩
  · intro i i' k p p' hi hi' hp hp'
    rcases hcase i p hi with ⟨n1, h⟩ | ⟨h, rfl⟩ <;> rcases hcase i' p' hi' with ⟨n2, h'⟩ | ⟨h', rfl⟩
    · exact hM.uniq i i' k p p' h h' hp hp'
    · obtain ⟨x, hx, rfl⟩ := hp'
      obtain ⟨p2, g1, g2⟩ := hnew x hx (hM.lies_lt h hp)
      exact absurd (hM.uniq i b x.blk p p2 h g1 hp g2) n1
    · obtain ⟨x, hx, rfl⟩ := hp
      obtain ⟨p2, g1, g2⟩ := hnew x hx (hM.lies_lt h' hp')
      exact absurd (hM.uniq i' b x.blk p' p2 h' g1 hp' g2) n2
    · omega
  · intro i k o l hi hl
    rcases hcase i _ hi with ⟨ni, h⟩ | ⟨_, h⟩
    · rw [(hoth i ni).2] at hl
      obtain ⟨c1, E1, fz1, h1, h2, h3, h4, h5⟩ := hM.born i k o l h hl
      exact ⟨c1, E1, fz1, by rw [hkb i k _ ni h rfl, h1], h2, h3, h4, fun j x y hx hy => hext.vr (h5 j x y hx hy)⟩
    · simp at h
  · intro i k l hi hl
    rcases hcase i _ hi with ⟨ni, h⟩ | ⟨_, h⟩
    · rw [(hoth i ni).2] at hl
      obtain ⟨es, cl, h1, h2⟩ := hM.maps i k l h hl
      exact ⟨es, cl, by rw [hkb i k _ ni h rfl, h1], h2.imp fun _ _ h => hext.vr h⟩
    · simp at h
  · intro i e2 g l hi hl
    rcases hcase i _ hi with ⟨ni, h⟩ | ⟨rfl, h⟩
    · rw [(hoth i ni).2] at hl
      exact hM.grsk h hl fun k _ hk => hkb i k _ ni h hk
    · simp only [Lie.gr.injEq] at h
      obtain ⟨rfl, rfl⟩ := h
      rw [hl'] at hl
      simp only [Option.some.injEq] at hl
      subst hl
      exact hg

theorem all_isV : ∀ {l : List AV}, l.all isV = true → ∃ vs : List Value, l = vs.map .v
  | [], _ => ⟨[], rfl⟩
  | x :: l, h => by
    simp only [List.all_cons, Bool.and_eq_true] at h
    obtain ⟨vs, rfl⟩ := all_isV h.2
    cases x <;> simp [isV] at h
    rename_i v
    exact ⟨v :: vs, rfl⟩
theorem vr_v {w : World} {im0 : Bool → Nat → Prop} {β : Beta} {x y : Value} (h : VR w im0 β (.v x) y) : y = x := by cases h; rfl
theorem vr_cells {w : World} {im0 : Bool → Nat → Prop} {β : Beta} {vs : List Value} {c : Array Value} (hs : c.size = vs.length) (h : ∀ (i : Nat) (x : AV) (y : Value), (vs.map AV.v)[i]? = some x → c[i]? = some y → VR w im0 β x y) (i : Nat) : c[i]? = vs[i]? := by
  rcases Nat.lt_or_ge i vs.length with hi | hi
  · have h1 : c[i]? = some (c[i]'(by omega)) := Array.getElem?_eq_getElem (by omega)
    have h2 : vs[i]? = some vs[i] := List.getElem?_eq_getElem hi
    have := h i _ _ (by rw [List.getElem?_map, h2]; rfl) h1
    rw [h1, h2, vr_v this]
  · rw [Array.getElem?_eq_none (by omega), List.getElem?_eq_none hi]

/-- a value in cells that nobody changes -/
theorem boxI_ok (hM : MR G w β bx) {t : TypeId} {x r : AV} {v : Value} (h : boxI x = some r) (hx : VR w (im G w β) β x v) : New P G w β (Instr.box t v) r bx := by
  unfold boxI at h
  split at h
  case isFalse => simp at h
  rename_i hc
  simp only [Option.some.injEq] at h
  subst h
  obtain ⟨g1, g2, g3⟩ := hx.cells hc.1
  obtain ⟨m1, e1⟩ := hM.fresh (.cells v.cells t)
  have hnew : (w.alloc (.cells v.cells t)).heap[w.heap.size]? = some (.cells v.cells t) := heap_alloc_new w _
  have hsz : (w.alloc (.cells v.cells t)).heap.size = w.heap.size + 1 := World.size_alloc ..
  have hin : im G (w.alloc (.cells v.cells t)) β true w.heap.size := .inr ⟨hM.sz, by omega, fun ⟨b, p, hb, hp⟩ => by have := hM.lies_lt hb hp; omega⟩
  refine ⟨.pointer (some ⟨w.heap.size, 0, none⟩), w.alloc (.cells v.cells t), β, ?_, e1, m1, ?_⟩
  · simp only [Instr.box, newVar, newRow, Sem.run_bind, run_newObj, Result.andThen_ok, Sem.run_pure]
    rfl
  · refine .ip x.cells true w.heap.size 0 (fun i => (v.cells[i]?).getD undef) (.inr hin) (fun i hi => ?_) (fun i y hy => ?_)
    · have h1 : v.cells[i]? = some (v.cells[i]'(by omega)) := Array.getElem?_eq_getElem (by omega)
      rw [h1, Option.getD_some, Nat.zero_add]
      refine ⟨by simp only [World.cell?, hnew]; exact h1, g2 _ (List.mem_of_getElem? (i := i) (by rw [Array.getElem?_toList]; exact h1))⟩
    · have hi : i < x.cells.length := (List.getElem?_eq_some_iff.mp hy).1
      have h1 : v.cells[i]? = some (v.cells[i]'(by omega)) := Array.getElem?_eq_getElem (by omega)
      rw [h1, Option.getD_some]
      have h2 := e1.vr (g3 i y _ hy (by rw [Array.getElem?_toList]; exact h1))
      have hs := List.all_eq_true.mp hc.2 y (List.mem_of_getElem? hy)
      generalize v.cells[i]'(by omega) = u at h2
      cases h2 with
      | v x => exact .v _
      | sl n l f a cap blk off cv hn ha hcc hh => exact .sl n l f a cap blk off cv hn (by simpa using ha) hcc (by simpa using hh)
      | ip l f blk off cv ha hcc hh => exact .ip l f blk off cv (by simpa using ha) hcc (by simpa using hh)
      | _ => simp [AV.still] at hs

theorem buildSliceM_ok (hM : MR G w β bx) {md : FuncId → Md} {t : TypeId} {n : Nat} {xs : List (Nat × AV)} {vs : Array (Nat × Value)} {r : AV} {bx' : Bx} (h : buildSliceM md P bx t n xs = some (r, bx')) (hp : PR w (im G w β) β xs vs.toList) :
    New P G w β (Instr.buildSlice t n vs) r bx' := by
  unfold buildSliceM at h
  split at h
  case isFalse => exact buildSliceA_ok hM h hp
  unfold buildSliceG at h
  rw [Option.map_eq_some_iff] at h
  obtain ⟨⟨r0, b0⟩, h0, h⟩ := h
  obtain ⟨e, sz, cs, c', rfl, rfl, s0, s1, s2, s3, s4, run⟩ := buildSlice_core (w := w) (G := G) (β := β) h0 hp
  unfold toG at h
  simp only [List.drop_left, List.head?_cons, Option.getD_some] at h
  split at h
  case isFalse =>
    simp only [Prod.mk.injEq] at h
    obtain ⟨rfl, rfl⟩ := h
    exact buildSliceA_ok hM h0 hp
  rename_i hc
  simp only [Prod.mk.injEq] at h
  obtain ⟨rfl, rfl⟩ := h
  obtain ⟨vs0, rfl⟩ := all_isV hc.2
  have hcc := vr_cells (by simpa using s1) s4
  rw [Array.append_empty] at run
  have hin : (β ++ [.gr sz [⟨n, w.heap.size, 0, n⟩]])[bx.length]? = some (.gr sz [⟨n, w.heap.size, 0, n⟩]) := by
    rw [List.getElem?_append_right (by rw [hM.len]; exact Nat.le_refl _)]; simp [hM.len]
  have hsz' : (w.alloc (.cells c' e)).heap.size = w.heap.size + 1 := World.size_alloc ..
  obtain ⟨k1, k2⟩ := hM.regr (w' := w.alloc (.cells c' e)) (β' := β ++ [.gr sz [⟨n, w.heap.size, 0, n⟩]]) (bx' := bx ++ [vs0.map .v]) (by omega) ⟨rfl, rfl, rfl⟩ hin (by simp) (by simp [hM.len])
    (fun i hi => by
      rcases Nat.lt_or_ge i bx.length with h | h
      · rw [List.getElem?_append_left (by rw [hM.len]; exact h), List.getElem?_append_left h]; exact ⟨rfl, rfl⟩
      · have a1 : (β ++ [Lie.gr sz [⟨n, w.heap.size, 0, n⟩]])[i]? = none := List.getElem?_eq_none (by rw [List.length_append, hM.len]; simp; omega)
        have a2 : (bx ++ [vs0.map AV.v])[i]? = none := List.getElem?_eq_none (by rw [List.length_append]; simp; omega)
        rw [a1, a2, List.getElem?_eq_none (l := β) (by rw [hM.len]; exact h), List.getElem?_eq_none (l := bx) h]; exact ⟨rfl, rfl⟩)
    (.inl (List.getElem?_eq_none (by rw [hM.len]; exact Nat.le_refl _))) (fun x hx => by simp at hx; subst hx; exact .inl (Nat.le_refl _)) (fun k hk _ => heap_alloc_old (w := w) (h := hk) ..)
    ⟨s0, vs0, rfl, fun x hx => by
      simp only [List.mem_singleton] at hx
      subst hx
      rw [List.length_map] at s1 s2
      refine ⟨Nat.le_refl _, by simp only; omega, fun y hy _ => by simp at hy; subst hy; exact ⟨rfl, rfl⟩, _, e, (0, 0), heap_alloc_new w _, by simp only; omega, .inl rfl, s3, fun i hi => ?_⟩
      rw [Nat.zero_add]
      exact hcc i⟩
  exact ⟨_, _, _, run, k2, k1, .gs bx.length sz _ ⟨n, w.heap.size, 0, n⟩ hin (by simp)⟩

theorem growBy_le (N : Nat) : ∀ (r c : Nat), c ≤ N + (N + 768) / 4 → Builtin.growBy N r c ≤ N + (N + 768) / 4
  | 0, c, h => by simpa [Builtin.growBy] using h
  | r + 1, c, h => by
    simp only [Builtin.growBy]
    split
    · exact h
    · exact growBy_le N r _ (by omega)

theorem nextcap_le {need cap : Nat} (h : cap < need) : Builtin.nextslicecap need cap ≤ 2 * need + 1024 := by
  unfold Builtin.nextslicecap
  split
  · omega
  · split
    · omega
    · have := growBy_le need 4 cap (by omega); omega

/-- 'append' where there is no room -/
theorem run_append_grow {t u e : TypeId} {ts : Array TypeId} {sz by_ m sLen sCap : Nat} {base : Option Addr} {vy v : Value} {oc nc : Array Value} (h0 : ts[0]? = some t) (h1 : ts[1]? = some u)
    (hu : P.underlying t = some (.slice e)) (hnum : P.underlying u = some .string ∨ ∃ e', P.underlying u = some (.slice e')) (hs : szA P e = some sz) (hby : byA P e = some by_) (hb0 : 0 < by_)
    (hbt : (sLen + m) * by_ ≤ 2 ^ 47) (hroom : sCap < sLen + m)
    (hlen : (Builtin.lenOf vy).run P w = .ok m w) (ho : (Builtin.firstCells sz sLen (.slice base sLen sCap)).run P w.drew = .ok oc w.drew) (hn : (Builtin.firstCells sz m vy).run P w.drew = .ok nc w.drew)
    (hz : (zeroValue e).run P w.drew = .ok v w.drew) :
    ∃ cap, sLen + m ≤ cap ∧ (Builtin.append_ ts u #[.slice base sLen sCap, vy]).run P w = .ok (.slice (some ⟨w.heap.size, 0, none⟩) (sLen + m) cap) (w.drew.alloc (.cells (oc ++ nc ++ Builtin.zeroCells v.cells (cap - (sLen + m))) e)) := by
  obtain ⟨ti, hti, rfl⟩ := Option.map_eq_some_iff.mp hby
  have hcapq : ∃ cap, sLen + m ≤ cap ∧ (choose (.appendCap (sLen + m) sCap e)).run P w = .ok cap w.drew := by
    refine ⟨_, ?_, by rw [run_choose, if_neg (by simp [Question.forced])]; rfl⟩
    simp only [Question.cut]; omega
  obtain ⟨cap, hc1, hc2⟩ := hcapq
  refine ⟨cap, hc1, ?_⟩
  have hnm : sLen + m ≤ (sLen + m) * ti.bytes := Nat.le_mul_of_pos_right _ hb0
  have hbig : ¬ (Builtin.nextslicecap (sLen + m) sCap * ti.bytes > 2 ^ 48) := by
    have h2 := growslice_fits (bytes := ti.bytes) hroom (by omega)
    omega
  have hmax : IntKind.i64.max = 9223372036854775807 := rfl
  rcases hnum with hd | ⟨e', hd⟩
  all_goals
    simp only [Builtin.append_, h0, h1, List.getElem?_toArray, List.getElem?_cons_zero, List.getElem?_cons_succ, Sem.run_bind, run_under hu, Result.andThen_ok, run_szA hs, run_under hd, Sem.run_pure, Bool.false_eq_true, if_false, hlen]
    rw [if_neg (by omega)]
    simp only [Sem.run_bind, run_typeInfo' hti, Result.andThen_ok, hmax]
    rw [if_neg (by omega)]
    simp only [Sem.run_bind, run_typeInfo' hti, Result.andThen_ok]
    rw [if_neg hbig]
    simp only [Sem.run_bind, Result.andThen_ok, hc2, run_typeInfo' hti, run_askRoom, ho, hn, hz, Bool.not_false, if_true, newRow, run_newObj, Sem.run_pure]
    rfl

theorem zpad {e : TypeId} {z : List AV} {sz : Nat} (hz : zcA P e = some z) (hs : szA P e = some sz) (hzl : z.length = sz) (w : World) (k : Nat) :
    ∃ v, (zeroValue e).run P w = .ok v w ∧ (Builtin.zeroCells v.cells k).size = k * sz ∧ ∀ (i : Nat) (y : Value), (Builtin.zeroCells v.cells k)[i]? = some y → y.oneCell' = true := by
  have hzz : zerosA P e k = some (List.replicate k z).flatten := by
    simp only [zerosA, hz, Option.bind_some]
    rw [if_pos (by rw [hs, hzl])]
  obtain ⟨v, sz', h1, h2, h3, h4, h5⟩ := zeros_ok (w := w) (im0 := fun _ _ => True) (β := []) hzz
  rw [hs] at h2
  simp only [Option.some.injEq] at h2
  subst h2
  obtain ⟨g1, g2, g3⟩ := h5 (k * v.cells.size) v.cells (.inl rfl) (by rw [h3])
  exact ⟨v, h1, by rw [show (Builtin.zeroCells v.cells k).size = ((Array.range (k * v.cells.size)).map fun i => v.cells[i % v.cells.size]!).size from rfl, g1, h4], g2⟩

theorem get_keep (env : Env) (q : Nat → Bool) (t : Nat) : get (env.map fun p => (p.1, p.2.keep q)) t = (get env t).keep q := by
  induction env with
  | nil => simp [get, AV.keep]
  | cons p env ih =>
    simp only [List.map_cons, get]
    split
    · rfl
    · exact ih

theorem appendA_ok (hM : MR G w β bx) {t u ty : TypeId} {ts : Array TypeId} {n0 : Nat} {env env' : Env} {x y r : AV} {bx' : Bx} {vx vy : Value} (h : appendA P n0 env bx t x y = some (r, env', bx'))
    (h0 : ts[0]? = some t) (h1 : ts[1]? = some u) (hnum : P.underlying u = some .string ∨ ∃ e', P.underlying u = some (.slice e')) (hx : VR w (im G w β) β x vx) (hy : VR w (im G w β) β y vy) :
    Done P G n0 w β env (keepO (apB x)) (Builtin.append_ ts ty #[vx, vy]) r env' bx' := by
  unfold appendA at h
  split at h
  · rename_i hsl
    obtain ⟨e, hu, hel⟩ := isSl_spec hsl
    simp only [hel, Option.bind_some, Option.bind_eq_some_iff] at h
    obtain ⟨sz, hs, by_, hby, z, hz, ⟨m, ys⟩, hr, h⟩ := h
    simp only at h
    split at h
    · rename_i hc
      obtain ⟨hys, hsz0, hzl, hb0, hb1, hm⟩ := hc
      -- nothing is appended to a slice without room
      have nothing : ∀ (base : Option Addr), m = 0 → (Builtin.append_ ts ty #[.slice base 0 0, vy]).run P w = .ok (.slice base 0 0) w := by
        intro base hm0
        obtain ⟨f1, cs, f2, f3, f4, f5⟩ := firstCells_ok (P := P) hM (k := m) hr hys (Nat.le_refl _) hy
        have hcs : cs = #[] := Array.eq_empty_of_size_eq_zero (by rw [f3, hm0]; simp)
        subst hcs
        subst hm0
        rcases hnum with hd | ⟨e', hd⟩
        all_goals
          simp only [Builtin.append_, h0, h1, List.getElem?_toArray, List.getElem?_cons_zero, List.getElem?_cons_succ, Sem.run_bind, run_under hu, Result.andThen_ok, run_szA hs, run_under hd, Sem.run_pure, Bool.false_eq_true, if_false, f1]
          rw [if_pos (by omega)]
          simp only [Sem.run_bind, Bool.not_false, if_true, f2, Result.andThen_ok]
          cases base <;> simp [Go.storeCells]
      -- a new block
      have grow : ∀ (base : Option Addr) (n sCap : Nat) (l : List AV), (n + m) * by_ ≤ 2 ^ 47 → sCap < n + m → l.length = n * sz → (∀ w1 : World, w1.heap = w.heap → w1.os = w.os ∧ w1.output = w.output ∧ w1.tape = w.tape → ∃ oc : Array Value, (Builtin.firstCells sz n (.slice base n sCap)).run P w1 = .ok oc w1 ∧ oc.size = n * sz ∧
            (∀ (i : Nat) (y : Value), oc[i]? = some y → y.oneCell' = true) ∧ ∀ (i : Nat) (x : AV) (u : Value), l[i]? = some x → oc[i]? = some u → VR w (im G w β) β x u) →
          ∃ cap c pad, n + m ≤ cap ∧ (Builtin.append_ ts ty #[.slice base n sCap, vy]).run P w = .ok (.slice (some ⟨w.heap.size, 0, none⟩) (n + m) cap) (w.drew.alloc (.cells (c ++ pad) e)) ∧ c.size = (l ++ ys).length ∧ (c ++ pad).size = cap * sz ∧
            (∀ (i : Nat) (y : Value), (c ++ pad)[i]? = some y → y.oneCell' = true) ∧ ∀ (i : Nat) (x : AV) (y : Value), (l ++ ys)[i]? = some x → c[i]? = some y → VR w (im G w β) β x y := by
        intro base n sCap l hn hroom hlen hold
        obtain ⟨m1, e1⟩ := hM.congr (w' := w.drew) rfl ⟨rfl, rfl, rfl⟩
        obtain ⟨f1, _⟩ := firstCells_ok (P := P) hM (k := m) hr hys (Nat.le_refl _) hy
        obtain ⟨_, nc, f2, f3, f4, f5⟩ := firstCells_ok (P := P) m1 (k := m) hr hys (Nat.le_refl _) (e1.vr hy)
        obtain ⟨oc, o1, o2, o3, o4⟩ := hold w.drew rfl ⟨rfl, rfl, rfl⟩
        obtain ⟨v, z1, _, _⟩ := zpad hz hs hzl w.drew 0
        obtain ⟨cap, c1, c2⟩ := run_append_grow h0 h1 hu hnum hs hby hb0 hn hroom f1 o1 f2 z1 (u := u) (vy := vy)
        obtain ⟨v', z1', z2, z3⟩ := zpad hz hs hzl w.drew (cap - (n + m))
        rw [z1'] at z1
        simp only [Result.ok.injEq, and_true] at z1
        subst z1
        refine ⟨cap, oc ++ nc, _, c1, c2, by simp [o2, f3, hlen, hys], ?_, ?_, ?_⟩
        · simp only [Array.size_append, o2, f3, z2]
          rw [← Nat.add_mul, ← Nat.add_mul]; congr 1; omega
        · intro i a ha
          rw [Array.getElem?_append] at ha
          split at ha
          · rw [Array.getElem?_append] at ha
            split at ha
            · exact o3 i a ha
            · exact f4 _ a ha
          · exact z3 _ a ha
        · intro i a b ha hb
          rw [Array.getElem?_append] at hb
          rw [List.getElem?_append] at ha
          split at hb
          · rw [if_pos (by omega)] at ha
            exact o4 i a b ha hb
          · rw [if_neg (by omega)] at ha
            have hb' : nc[i - l.length]? = some b := by rw [hlen, ← o2]; exact hb
            have := f5 (i - l.length) a b (by rw [← hys, List.take_length]; exact ha) hb'
            exact this.mono (fun f k hi => ⟨hi, fun _ => rfl⟩) (fun b p _ h => ⟨p, h, .refl p⟩) (fun b k o c E fz _ h => ⟨c, E, fz, h, rfl⟩)
      have fresh : ∀ (base : Option Addr), 0 < m → Done P G n0 w β env (fun _ => true) (Builtin.append_ ts ty #[.slice base 0 0, vy]) (.bsl bx.length 0 m sz) env (bx ++ [ys]) := by
        intro base hm0
        obtain ⟨cap, c, pad, g1, g2, g3, g4, g5, g6⟩ := grow base 0 0 [] (by rw [Nat.zero_add]; exact hb1) (by omega) (by simp) (fun w1 _ _ => ⟨#[], by cases base <;> simp [Builtin.firstCells, loadCells, loadCellsFrom], by simp, by simp, by simp⟩)
        rw [Nat.zero_add] at g1 g2
        exact (New.slice hM (w1 := w.drew) rfl ⟨rfl, rfl, rfl⟩ (by simpa using g3) g5 (by simpa using g6) g1 hsz0 (by rw [g4]; exact Nat.le_refl _) g2).done
      have freshG : ∀ (base : Option Addr), 0 < m → ys.all isV = true → Done P G n0 w β env (fun _ => true) (Builtin.append_ ts ty #[.slice base 0 0, vy]) (.gs bx.length m sz) env (bx ++ [ys]) := by
        intro base hm0 hys'
        obtain ⟨cap, c, pad, g1, g2, g3, g4, g5, g6⟩ := grow base 0 0 [] (by rw [Nat.zero_add]; exact hb1) (by omega) (by simp) (fun w1 _ _ => ⟨#[], by cases base <;> simp [Builtin.firstCells, loadCells, loadCellsFrom], by simp, by simp, by simp⟩)
        rw [Nat.zero_add] at g1 g2
        rw [List.nil_append] at g3 g6
        obtain ⟨vs, rfl⟩ := all_isV hys'
        have hc := vr_cells (by simpa using g3) g6
        have hin : (β ++ [.gr sz [⟨m, w.heap.size, 0, cap⟩]])[bx.length]? = some (.gr sz [⟨m, w.heap.size, 0, cap⟩]) := by
          rw [List.getElem?_append_right (by rw [hM.len]; exact Nat.le_refl _)]; simp [hM.len]
        have hsz' : (w.drew.alloc (.cells (c ++ pad) e)).heap.size = w.heap.size + 1 := World.size_alloc ..
        obtain ⟨k1, k2⟩ := hM.regr (w' := w.drew.alloc (.cells (c ++ pad) e)) (β' := β ++ [.gr sz [⟨m, w.heap.size, 0, cap⟩]]) (bx' := bx ++ [vs.map .v]) (by omega) ⟨rfl, rfl, rfl⟩ hin (by simp) (by simp [hM.len])
          (fun i hi => by
            rcases Nat.lt_or_ge i bx.length with h | h
            · rw [List.getElem?_append_left (by rw [hM.len]; exact h), List.getElem?_append_left h]; exact ⟨rfl, rfl⟩
            · have a1 : (β ++ [Lie.gr sz [⟨m, w.heap.size, 0, cap⟩]])[i]? = none := List.getElem?_eq_none (by rw [List.length_append, hM.len]; simp; omega)
              have a2 : (bx ++ [vs.map AV.v])[i]? = none := List.getElem?_eq_none (by rw [List.length_append]; simp; omega)
              rw [a1, a2, List.getElem?_eq_none (l := β) (by rw [hM.len]; exact h), List.getElem?_eq_none (l := bx) h]; exact ⟨rfl, rfl⟩)
          (.inl (List.getElem?_eq_none (by rw [hM.len]; exact Nat.le_refl _))) (fun x hx => by simp at hx; subst hx; exact .inl (Nat.le_refl _)) (fun k hk _ => heap_alloc_old (w := w.drew) (h := hk) ..)
          ⟨hsz0, vs, rfl, fun x hx => by
            simp only [List.mem_singleton] at hx
            subst hx
            refine ⟨g1, by simp at hys; simp only; omega, fun y hy _ => by simp at hy; subst hy; exact ⟨rfl, rfl⟩, _, e, (0, 0), heap_alloc_new w.drew _, by simp only; rw [g4]; omega, .inl rfl, g5, fun i hi => ?_⟩
            simp only at hi
            simp only [List.length_map] at hys
            rw [Nat.zero_add, Array.getElem?_append_left (by rw [g3]; simp; omega)]
            exact hc i⟩
        exact New.done ⟨_, _, _, g2, k2, k1, .gs bx.length sz _ ⟨m, w.heap.size, 0, cap⟩ hin (by simp)⟩
      split at h
      · split at h
        · rename_i hm0
          simp only [Option.some.injEq, Prod.mk.injEq] at h
          obtain ⟨rfl, rfl, rfl⟩ := h
          cases hx with
          | ns a => exact (New.same hM (nothing a hm0) (.ns a)).done
        · rename_i hm0
          split at h
          · rename_i hcc
            simp only [Option.some.injEq, Prod.mk.injEq] at h
            obtain ⟨rfl, rfl, rfl⟩ := h
            cases hx with
            | ns a => exact freshG a (by omega) hcc.2
          simp only [Option.some.injEq, Prod.mk.injEq] at h
          obtain ⟨rfl, rfl, rfl⟩ := h
          cases hx with
          | ns a => exact fresh a (by omega)
      · split at h
        · rename_i hm0
          simp only [Option.some.injEq, Prod.mk.injEq] at h
          obtain ⟨rfl, rfl, rfl⟩ := h
          cases hx
          exact (New.same hM (nothing none hm0) (.ns none)).done
        · rename_i hm0
          split at h
          · rename_i hcc
            simp only [Option.some.injEq, Prod.mk.injEq] at h
            obtain ⟨rfl, rfl, rfl⟩ := h
            cases hx
            exact freshG none (by omega) hcc.2
          simp only [Option.some.injEq, Prod.mk.injEq] at h
          obtain ⟨rfl, rfl, rfl⟩ := h
          cases hx
          exact fresh none (by omega)
      · rename_i b n e'
        rw [Option.bind_eq_some_iff] at h
        obtain ⟨l, hl, h⟩ := h
        split at h
        · rename_i hc
          obtain ⟨hlen, rfl, hn, hyv⟩ := hc
          simp only [Option.some.injEq, Prod.mk.injEq] at h
          obtain ⟨rfl, rfl, rfl⟩ := h
          show Done P G n0 w β env (fun _ => true) _ _ _ _
          cases hx with
          | gs _ _ g x hβ hx =>
          have hlt : b < bx.length := (List.getElem?_eq_some_iff.mp hl).1
          have hltβ : b < β.length := by rw [hM.len]; exact hlt
          obtain ⟨_, vs0, hvs0, hgg⟩ := hM.grs b e' g l hβ hl
          obtain ⟨us, rfl⟩ := all_isV hyv
          have hvs0l : vs0.length = x.n * e' := by rw [← hlen, hvs0, List.length_map]
          have husl : us.length = m * e' := by rw [← hys, List.length_map]
          obtain ⟨x1, x2, x3, c, E, fz, x4, x5, x6, x7, x8⟩ := hgg x hx
          have hle : ∀ y ∈ g, y.n ≤ x.n := fun y hy => by
            obtain ⟨_, y2, _⟩ := hgg y hy
            rw [hvs0l] at y2
            exact Nat.le_of_mul_le_mul_right y2 hsz0
          by_cases hroom : x.n + m ≤ x.cap
          · -- there is room
            obtain ⟨f1, cs, f2, f3, f4, f5⟩ := firstCells_ok (P := P) hM (k := m) hr hys (Nat.le_refl _) hy
            have hcs : ∀ i : Nat, cs[i]? = us[i]? := vr_cells (by rw [f3, husl]) fun i x y hx hy => f5 i x y (by rw [← hys, List.take_length]; exact hx) hy
            have hrun : ∀ w', (Go.storeCells ((⟨x.blk, x.off, none⟩ : Addr).add (x.n * e')) cs.toList).run P w = .ok () w' → (Builtin.append_ ts ty #[.slice (some ⟨x.blk, x.off, none⟩) x.n x.cap, vy]).run P w = .ok (.slice (some ⟨x.blk, x.off, none⟩) (x.n + m) x.cap) w' := by
              intro w' hst
              rcases hnum with hd | ⟨e'', hd⟩
              all_goals
                simp only [Builtin.append_, h0, h1, List.getElem?_toArray, List.getElem?_cons_zero, List.getElem?_cons_succ, Sem.run_bind, run_under hu, Result.andThen_ok, run_szA hs, run_under hd, Sem.run_pure, Bool.false_eq_true, if_false, f1]
                rw [if_pos hroom]
                simp only [Sem.run_bind, Bool.not_false, if_true, f2, Result.andThen_ok, hst, Sem.run_pure]
            have hmul : x.n * e' + m * e' ≤ x.cap * e' := by rw [← Nat.add_mul]; exact Nat.mul_le_mul_right _ hroom
            obtain ⟨w', c', r1, r2, r3, r4, r5, r6, r7⟩ := run_storeCells' (P := P) x.blk (x.off + x.n * e') cs.toList 0 c E fz w x4 (by simp [f3]; omega) (by rcases x6 with rfl | x6 <;> simp <;> omega) (fun v hv => by obtain ⟨i, hi⟩ := List.getElem?_of_mem hv; exact f4 i v (by simpa using hi))
            have hin : (β.set b (.gr e' (⟨x.n + m, x.blk, x.off, x.cap⟩ :: g)))[b]? = some (.gr e' (⟨x.n + m, x.blk, x.off, x.cap⟩ :: g)) := by rw [List.getElem?_set_self hltβ]
            have hone' : ∀ (i : Nat) (y : Value), c'[i]? = some y → y.oneCell' = true := by
              intro j y hy
              rw [r4 j] at hy
              split at hy
              · exact f4 _ y (by simpa using hy)
              · exact x7 j y hy
            have hcell : ∀ i, i < (x.n + m) * e' → c'[x.off + i]? = (vs0 ++ us)[i]? := by
              intro i hi
              rw [Nat.add_mul] at hi
              rw [r4, List.getElem?_append]
              by_cases hi2 : i < x.n * e'
              · rw [if_neg (by omega), if_pos (by omega)]
                exact x8 i hi2
              · rw [if_pos (by simp [f3]; omega), if_neg (by omega), ← Array.getElem?_toList.symm, hcs]
                congr 1
                omega
            obtain ⟨k1, k2⟩ := hM.regr (w' := w') (β' := β.set b (.gr e' (⟨x.n + m, x.blk, x.off, x.cap⟩ :: g))) (bx' := bx.set b (l ++ us.map .v)) (by omega) r7 hin (by rw [List.getElem?_set_self hlt]) (by simp [hM.len])
              (fun i hi => by rw [List.getElem?_set_ne (Ne.symm hi), List.getElem?_set_ne (Ne.symm hi)]; exact ⟨rfl, rfl⟩)
              (.inr ⟨g, hβ, fun y hy => by simp [hy]⟩) (fun y hy => by
                rcases List.mem_cons.mp hy with rfl | hy
                · exact .inr ⟨g, hβ, x, hx, rfl⟩
                · exact .inr ⟨g, hβ, y, hy, rfl⟩) (fun k hk hn => r6 k fun ek => hn _ (List.mem_cons_self ..) ek.symm)
              ⟨hsz0, vs0 ++ us, by rw [hvs0, List.map_append], fun y hy => by
                have hcons : ∀ y ∈ g, ∀ z, z ∈ (⟨x.n + m, x.blk, x.off, x.cap⟩ :: g : List GrE) → z.blk = y.blk → z.off = y.off ∧ z.cap = y.cap := by
                  intro y hy z hz hzy
                  obtain ⟨_, _, y3, _⟩ := hgg y hy
                  rcases List.mem_cons.mp hz with rfl | hz
                  · exact y3 x hx hzy
                  · exact y3 z hz hzy
                rcases List.mem_cons.mp hy with rfl | hy
                · refine ⟨hroom, by simp only [List.length_append]; rw [hvs0l, husl, Nat.add_mul]; exact Nat.le_refl _, fun z hz hzy => ?_, c', E, fz, r2, by rw [r3]; exact x5, by rw [r3]; exact x6, hone', hcell⟩
                  rcases List.mem_cons.mp hz with rfl | hz
                  · exact ⟨rfl, rfl⟩
                  · exact x3 z hz hzy
                · obtain ⟨y1, y2, y3, c1, E1, fz1, y4, y5, y6, y7, y8⟩ := hgg y hy
                  refine ⟨y1, by rw [List.length_append]; omega, hcons y hy, ?_⟩
                  by_cases hyb : y.blk = x.blk
                  · obtain ⟨o1, o2⟩ := x3 y hy hyb
                    refine ⟨c', E, fz, by rw [hyb]; exact r2, by rw [r3, o1, o2]; exact x5, by rw [r3]; exact x6, hone', fun i hi => ?_⟩
                    have : y.n * e' ≤ (x.n + m) * e' := Nat.mul_le_mul_right _ (by have := hle y hy; omega)
                    rw [o1]
                    exact hcell i (by omega)
                  · refine ⟨c1, E1, fz1, by rw [r6 _ hyb]; exact y4, y5, y6, y7, fun i hi => ?_⟩
                    rw [y8 i hi, List.getElem?_append_left (by omega)]⟩
            exact New.done ⟨_, w', _, hrun w' (by simpa [addr_add] using r1), k2, k1, .gs b e' _ ⟨x.n + m, x.blk, x.off, x.cap⟩ hin (by simp)⟩
          · -- a new block
            obtain ⟨cap, c2, pad, g1, g2, g3, g4, g5, g6⟩ := grow (some ⟨x.blk, x.off, none⟩) x.n x.cap l hn (by omega) hlen (fun w1 hw1 ho1 => by
              obtain ⟨m1, e1⟩ := hM.congr hw1 ho1
              obtain ⟨_, oc, f2, f3, f4, f5⟩ := firstCells_ok (P := P) m1 (y := .gs b x.n e') (m := x.n) (k := x.n) (ys := l.take (x.n * e')) (by simp only [readA, hl, Option.map_some]) (by rw [List.length_take, hlen, Nat.min_self]) (Nat.le_refl _) (.gs b e' g x hβ hx)
              refine ⟨oc, f2, f3, f4, fun i x u hx hu => ?_⟩
              have := f5 i x u (by rw [List.take_take, Nat.min_self, ← hlen, List.take_length]; exact hx) hu
              exact this.mono (fun f k hi => ⟨by simpa [im, hw1] using hi, fun o => (cell_heap (by rw [hw1]) o).symm⟩) (fun b p _ h => ⟨p, h, .refl p⟩) (fun b k o c E fz _ h => ⟨c, E, fz, by rw [← hw1]; exact h, rfl⟩))
            rw [hvs0, ← List.map_append] at g3 g6
            have hc2 := vr_cells (by simpa using g3) g6
            have hin : (β.set b (.gr e' (⟨x.n + m, w.heap.size, 0, cap⟩ :: g)))[b]? = some (.gr e' (⟨x.n + m, w.heap.size, 0, cap⟩ :: g)) := by rw [List.getElem?_set_self hltβ]
            have hsz' : (w.drew.alloc (.cells (c2 ++ pad) e)).heap.size = w.heap.size + 1 := World.size_alloc ..
            have hblt : ∀ y ∈ g, y.blk < w.heap.size := fun y hy => hM.lies_lt hβ ⟨y, hy, rfl⟩
            have hold' : ∀ k, k < w.heap.size → (w.drew.alloc (.cells (c2 ++ pad) e)).heap[k]? = w.heap[k]? := fun k hk => heap_alloc_old (w := w.drew) (h := hk) ..
            obtain ⟨k1, k2⟩ := hM.regr (w' := w.drew.alloc (.cells (c2 ++ pad) e)) (β' := β.set b (.gr e' (⟨x.n + m, w.heap.size, 0, cap⟩ :: g))) (bx' := bx.set b (l ++ us.map .v)) (by omega) ⟨rfl, rfl, rfl⟩ hin (by rw [List.getElem?_set_self hlt]) (by simp [hM.len])
              (fun i hi => by rw [List.getElem?_set_ne (Ne.symm hi), List.getElem?_set_ne (Ne.symm hi)]; exact ⟨rfl, rfl⟩)
              (.inr ⟨g, hβ, fun y hy => by simp [hy]⟩) (fun y hy => by
                rcases List.mem_cons.mp hy with rfl | hy
                · exact .inl (Nat.le_refl _)
                · exact .inr ⟨g, hβ, y, hy, rfl⟩) (fun k hk _ => hold' k hk)
              ⟨hsz0, vs0 ++ us, by rw [hvs0, List.map_append], fun y hy => by
                rcases List.mem_cons.mp hy with rfl | hy
                · refine ⟨g1, by simp only [List.length_append]; rw [hvs0l, husl, Nat.add_mul]; exact Nat.le_refl _, fun z hz hzy => ?_, _, e, (0, 0), heap_alloc_new w.drew _, by simp only; rw [g4]; omega, .inl rfl, g5, fun i hi => ?_⟩
                  · rcases List.mem_cons.mp hz with rfl | hz
                    · exact ⟨rfl, rfl⟩
                    · have := hblt z hz
                      simp only at hzy
                      omega
                  · simp only at hi
                    rw [Nat.add_mul] at hi
                    rw [Nat.zero_add, Array.getElem?_append_left (by rw [g3]; simp; omega)]
                    exact hc2 i
                · obtain ⟨y1, y2, y3, c1, E1, fz1, y4, y5, y6, y7, y8⟩ := hgg y hy
                  refine ⟨y1, by rw [List.length_append]; omega, fun z hz hzy => ?_, c1, E1, fz1, by rw [hold' _ (hblt y hy)]; exact y4, y5, y6, y7, fun i hi => ?_⟩
                  · rcases List.mem_cons.mp hz with rfl | hz
                    · have := hblt y hy
                      simp only at hzy
                      omega
                    · exact y3 z hz hzy
                  · rw [y8 i hi, List.getElem?_append_left (by omega)]⟩
            exact New.done ⟨_, _, _, g2, k2, k1, .gs b e' _ ⟨x.n + m, w.heap.size, 0, cap⟩ hin (by simp)⟩
        · simp at h
      · rename_i b off n e'
        rw [Option.bind_eq_some_iff] at h
        obtain ⟨l, hl, h⟩ := h
        split at h
        · rename_i hc
          obtain ⟨rfl, hn0, hlen, he', hn⟩ := hc
          simp only [Option.some.injEq, Prod.mk.injEq] at h
          obtain ⟨rfl, rfl, rfl⟩ := h
          have henv : ∀ {w' : World} {β' : Beta}, Ext G (· != b) w β w' β' → (∀ t : Nat, get (env.map fun p => (p.1, p.2.keep (· != b))) t = (get env t).keep (· != b)) ∧ ∀ (x : AV) (y : Value), VR w (im G w β) β x y → VR w' (im G w' β') β' (x.keep (· != b)) y :=
            fun hext => ⟨fun t => get_keep env _ t, fun x y hy => hext.vrk hy⟩
          show Done P G n0 w β env (· != b) _ _ _ _
          have hq : ∀ k, decide (k < n0) = true → (k != b) = true := by
            intro k hk; simp at hk ⊢; omega
          have moved : ∀ (base : Option Addr) (sCap : Nat), sCap < n + m → vx = .slice base n sCap → (∀ w1 : World, w1.heap = w.heap → w1.os = w.os ∧ w1.output = w.output ∧ w1.tape = w.tape → ∃ oc : Array Value, (Builtin.firstCells sz n (.slice base n sCap)).run P w1 = .ok oc w1 ∧ oc.size = n * sz ∧
              (∀ (i : Nat) (y : Value), oc[i]? = some y → y.oneCell' = true) ∧ ∀ (i : Nat) (x : AV) (u : Value), l[i]? = some x → oc[i]? = some u → VR w (im G w β) β x u) →
              Done P G n0 w β env (· != b) (Builtin.append_ ts ty #[vx, vy]) (.bsl b 0 (n + m) (if n + m = 0 then e' else sz)) (env.map fun p => (p.1, p.2.keep (· != b)))
                ((bx.map fun l => l.map (AV.keep (· != b))).set b ((l ++ ys).map (AV.keep (· != b)))) := by
            intro base sCap hroom ev hold
            subst ev
            obtain ⟨cap, c, pad, g1, g2, g3, g4, g5, g6⟩ := grow base n sCap l hn hroom hlen hold
            obtain ⟨m1, e1⟩ := hM.congr (w' := w.drew) rfl ⟨rfl, rfl, rfl⟩
            obtain ⟨m2, e2⟩ := m1.move hl e (c := c) (pad := pad) g3 g5 (fun i x y hx hy => e1.vr (g6 i x y hx hy))
            have e3 : Ext G (· != b) w β _ _ := (e1.weaken (fun _ _ => rfl)).trans e2
            refine ⟨_, _, _, g2, e3.weaken hq, m2, ?_, henv e3⟩
            rw [if_neg (by omega)]
            have hltβ : b < β.length := by rw [hM.len]; exact (List.getElem?_eq_some_iff.mp hl).1
            exact .bsl b 0 (n + m) sz w.drew.heap.size 0 _ cap (by rw [List.getElem?_set_self hltβ]) g1 hsz0 (.inl rfl) ⟨_, e, (0, 0), heap_alloc_new w.drew _, by rw [g4]; omega⟩
          cases hx with
          | bsl _ _ _ _ blk ob a cap hβ hnc he ha hcp =>
            have hee : e' = sz := by omega
            subst hee
            by_cases hroom : n + m ≤ cap
            · -- there is room
              obtain ⟨f1, cs, f2, f3, f4, f5⟩ := firstCells_ok (P := P) hM (k := m) hr hys (Nat.le_refl _) hy
              obtain ⟨c, E, fz, b1, b2, b3, b4, b5⟩ := hM.born b blk ob l hβ hl
              have hrun : ∀ w', (Go.storeCells (a.add (n * e')) cs.toList).run P w = .ok () w' → (Builtin.append_ ts ty #[.slice (some a) n cap, vy]).run P w = .ok (.slice (some a) (n + m) cap) w' := by
                intro w' hst
                rcases hnum with hd | ⟨e'', hd⟩
                all_goals
                  simp only [Builtin.append_, h0, h1, List.getElem?_toArray, List.getElem?_cons_zero, List.getElem?_cons_succ, Sem.run_bind, run_under hu, Result.andThen_ok, run_szA hs, run_under hd, Sem.run_pure, Bool.false_eq_true, if_false, f1]
                  rw [if_pos hroom]
                  simp only [Sem.run_bind, Bool.not_false, if_true, f2, Result.andThen_ok, hst, Sem.run_pure]
              obtain ⟨c0, E0, fz0, k1, k2⟩ := hcp
              rw [b1] at k1
              simp only [Option.some.injEq, Obj.cells.injEq] at k1
              obtain ⟨rfl, rfl, rfl⟩ := k1
              have hw : ∃ w', (Go.storeCells (a.add (n * e')) cs.toList).run P w = .ok () w' ∧ MR G w' β (bx.set b (l ++ ys)) ∧ Ext G allq w β w' β := by
                rcases ha with rfl | ⟨hc0, _⟩
                · have hmul : n * e' + m * e' ≤ cap * e' := by rw [← Nat.add_mul]; exact Nat.mul_le_mul_right _ hroom
                  obtain ⟨w', c', r1, r2, r3, r4, r5, r6, r7⟩ := run_storeCells' (P := P) blk (ob + n * e') cs.toList 0 c E fz w b1 (by simp [f3]; omega) (by rcases b3 with rfl | b3 <;> simp <;> omega) (fun v hv => by obtain ⟨i, hi⟩ := List.getElem?_of_mem hv; exact f4 i v (by simpa using hi))
                  have hget : ∀ (j : Nat) (y : Value), c'[j]? = some y → (ob + n * e' ≤ j ∧ cs[j - (ob + n * e')]? = some y) ∨ (¬ (ob + n * e' ≤ j ∧ j < ob + n * e' + m * e') ∧ c[j]? = some y) := by
                    intro j y hy
                    rw [r4 j] at hy
                    split at hy
                    · rename_i h; exact .inl ⟨by omega, by simpa using hy⟩
                    · rename_i h; exact .inr ⟨by simpa [f3] using h, hy⟩
                  refine ⟨w', by simpa [addr_add] using r1, ?_⟩
                  refine hM.write hβ hl b1 r2 r3 (by rw [r3]; exact b3) ?_ r6 r5 r7 _ (by rw [r3, List.length_append, hlen, hys]; omega) ?_
                  · intro j y hy
                    rcases hget j y hy with ⟨_, h⟩ | ⟨_, h⟩
                    · exact f4 _ y h
                    · exact b4 j y h
                  · intro i x y hx hy
                    rw [List.getElem?_append] at hx
                    rcases hget _ y hy with ⟨g1, g2⟩ | ⟨g1, g2⟩
                    · rw [if_neg (by omega)] at hx
                      refine f5 (i - l.length) x y (by rw [← hys, List.take_length]; exact hx) ?_
                      rw [← g2]; congr 1; omega
                    · split at hx
                      · exact b5 i x y hx g2
                      · have : i - l.length < ys.length := (List.getElem?_eq_some_iff.mp hx).1
                        omega
                · have hnm : n = 0 ∧ m = 0 := by omega
                  have hcs : cs = #[] := Array.eq_empty_of_size_eq_zero (by rw [f3, hnm.2]; simp)
                  have hy0 : ys = [] := List.length_eq_zero_iff.mp (by rw [hys, hnm.2]; simp)
                  refine ⟨w, by simp [hcs, Go.storeCells], ?_, .refl _ _ _ _⟩
                  rw [hy0, List.append_nil, List.set_getElem?_self' hl]
                  exact hM
              obtain ⟨w', r1, r2, r3⟩ := hw
              have r4 := r2.clear (· != b)
              rw [List.map_set] at r4
              have hr3 : Ext G (· != b) w β w' β := r3.weaken (fun _ _ => rfl)
              refine ⟨_, w', β, hrun w' r1, r3.weaken (fun _ _ => rfl), r4, ?_, henv hr3⟩
              have hee : (if n + m = 0 then e' else e') = e' := by split <;> rfl
              rw [hee]
              have hsh := r3.shp b blk ob c E fz rfl hβ b1
              obtain ⟨c2, fz2, s1, s2⟩ := hsh
              exact .bsl b 0 (n + m) e' blk ob a cap hβ hroom he ha ⟨c2, E, fz2, s1, by omega⟩
            · refine moved (some a) cap (by omega) rfl (fun w1 hw1 ho1 => ?_)
              obtain ⟨m1, e1⟩ := hM.congr hw1 ho1
              obtain ⟨_, oc, f2, f3, f4, f5⟩ := firstCells_ok (P := P) m1 (y := .bsl b 0 n e') (m := n) (k := n) (ys := l.take (n * e')) (by simp only [readA, hl, Option.map_some, List.drop_zero]) (by rw [List.length_take, hlen, Nat.min_self]) (Nat.le_refl _) (e1.vr (.bsl b 0 n e' blk ob a cap hβ hnc he ha hcp))
              refine ⟨oc, f2, f3, f4, fun i x u hx hu => ?_⟩
              have := f5 i x u (by rw [List.take_take, Nat.min_self, ← hlen, List.take_length]; exact hx) hu
              exact this.mono (fun f k hi => ⟨by simpa [im, hw1] using hi, fun o => (cell_heap (by rw [hw1]) o).symm⟩) (fun b p _ h => ⟨p, h, .refl p⟩) (fun b k o c E fz _ h => ⟨c, E, fz, by rw [← hw1]; exact h, rfl⟩)
          | bslU _ _ a hβ =>
            have hl0 : l = [] := List.length_eq_zero_iff.mp (by rw [hlen]; simp)
            subst hl0
            by_cases hm0 : m = 0
            · have hy0 : ys = [] := List.length_eq_zero_iff.mp (by rw [hys, hm0]; simp)
              have r4 := hM.clear (· != b)
              refine ⟨_, w, β, nothing a hm0, .refl _ _ _ _, ?_, ?_, henv (.refl _ _ _ _)⟩
              · rw [hy0, List.append_nil, List.map_nil, List.set_getElem?_self']
                · exact r4
                · rw [List.getElem?_map, hl]; rfl
              · rw [hm0, if_pos rfl]
                exact .bslU b 0 a hβ
            · exact moved a 0 (by omega) rfl (fun w1 _ _ => ⟨#[], by cases a <;> simp [Builtin.firstCells, loadCells, loadCellsFrom], by simp, by simp, by simp⟩)
        · simp at h
      · simp at h
    · simp at h
  · simp at h
end
end Go.Sy
