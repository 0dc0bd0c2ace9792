/-
  The reader's operators on numbers, bools, strings and aggregates, against the machine's.
-/
import Derived.Test.YtmkdhgigghgieaaSyEq
namespace Go.Sy

theorem run_eqNil' {P : Program} {w : World} {t e : TypeId} (d : Nat) (hu : P.underlying t = some (.pointer e)) : (Op.equalIn (d + 1) t (.pointer none) (.pointer none)).run P w = .ok true w := by
  simp only [Op.equalIn, Sem.run_bind, run_under hu, Result.andThen_ok]
  rfl

theorem run_eqNil {P : Program} {w : World} {t e : TypeId} (hu : P.underlying t = some (.pointer e)) : (Op.equal t (.pointer none) (.pointer none)).run P w = .ok true w := run_eqNil' 9999 hu

theorem run_eqNil1' {P : Program} {w : World} {t e : TypeId} {a : Addr} (d : Nat) (hu : P.underlying t = some (.pointer e)) : (Op.equalIn (d + 1) t (.pointer (some a)) (.pointer none)).run P w = .ok false w := by
  simp only [Op.equalIn, Sem.run_bind, run_under hu, Result.andThen_ok]
  rfl

theorem run_eqNil1 {P : Program} {w : World} {t e : TypeId} {a : Addr} (hu : P.underlying t = some (.pointer e)) : (Op.equal t (.pointer (some a)) (.pointer none)).run P w = .ok false w := run_eqNil1' 9999 hu

theorem run_eqNil2' {P : Program} {w : World} {t e : TypeId} {a : Addr} (d : Nat) (hu : P.underlying t = some (.pointer e)) : (Op.equalIn (d + 1) t (.pointer none) (.pointer (some a))).run P w = .ok false w := by
  simp only [Op.equalIn, Sem.run_bind, run_under hu, Result.andThen_ok]
  rfl

theorem run_eqNil2 {P : Program} {w : World} {t e : TypeId} {a : Addr} (hu : P.underlying t = some (.pointer e)) : (Op.equal t (.pointer none) (.pointer (some a))).run P w = .ok false w := run_eqNil2' 9999 hu

theorem run_eqNilS' {P : Program} {w : World} {t e : TypeId} {a : Addr} {n c : Nat} (d : Nat) (hu : P.underlying t = some (.slice e)) : (Op.equalIn (d + 1) t (.slice (some a) n c) (.slice none 0 0)).run P w = .ok false w := by
  simp only [Op.equalIn, Sem.run_bind, run_under hu, Result.andThen_ok]
  rfl

theorem run_eqNilS {P : Program} {w : World} {t e : TypeId} {a : Addr} {n c : Nat} (hu : P.underlying t = some (.slice e)) : (Op.equal t (.slice (some a) n c) (.slice none 0 0)).run P w = .ok false w := run_eqNilS' 9999 hu

theorem binV_ok {P : Program} {w : World} {op : BinOp} {t : TypeId} {a b v : Value} (h : binV P op t a b = some v) (ox oy : Operand) :
    (eqGuard op t ox oy a b).run P w = .ok () w ∧ (binOp op t a b).run P w = .ok v w := by
  unfold binV at h
  split at h
  · rename_i k x k' y
    refine ⟨by cases op <;> simp [eqGuard], ?_⟩
    split at h
    · simp only [shA] at h
      split at h
      · simp at h
      · simp only [Option.some.injEq] at h
        subst h
        simp only [binOp, Op.shift]
        rw [if_neg (by assumption)]
        rfl
    · simp only [shA] at h
      split at h
      · simp at h
      · simp only [Option.some.injEq] at h
        subst h
        simp only [binOp, Op.shift]
        rw [if_neg (by assumption)]
        rfl
    · split at h
      · rename_i hk
        subst hk
        cases op <;> simp only [intA, reduceCtorEq, Option.some.injEq] at h <;> first
          | (subst h; simp [binOp, Op.intArith, Op.intBits, Op.intCmp, bitI]; done)
          | (split at h <;> simp only [reduceCtorEq, Option.some.injEq] at h; subst h; simp [binOp, Op.intDiv, *]; done)
          | (exfalso; simp_all; done)
      · simp at h
  · rename_i x y
    refine ⟨by cases op <;> simp [eqGuard], ?_⟩
    cases op <;> simp only [strA, reduceCtorEq, Option.some.injEq] at h <;> (subst h; simp [binOp, Op.stringOp])
  · rename_i x y
    refine ⟨by cases op <;> simp [eqGuard], ?_⟩
    split at h
    · rename_i hu
      simp only [Option.some.injEq] at h; subst h
      simp [binOp, run_equal_bool w t x y hu]
    · rename_i hu
      simp only [Option.some.injEq] at h; subst h
      simp [binOp, run_equal_bool w t x y hu]
    · simp at h
  · refine ⟨by cases op <;> simp [eqGuard], ?_⟩
    split at h
    · rename_i e hu
      simp only [Option.some.injEq] at h; subst h
      simp only [binOp, Sem.run_bind, run_eqNil hu, Result.andThen_ok]; rfl
    · rename_i e hu
      simp only [Option.some.injEq] at h; subst h
      simp only [binOp, Sem.run_bind, run_eqNil hu, Result.andThen_ok]; rfl
    · simp at h
  · simp at h

theorem fits_v {c : CK} {x : AV} (h : c.fits x = true) : ∃ y, x = .v y ∧ c.fitsV y = true := by
  unfold CK.fits at h
  split at h <;> first | (simp at h; done) | exact ⟨_, rfl, by first | rfl | exact h⟩

theorem eqL_eqVs : ∀ {xs ys : List Value} {b : Bool}, eqL (xs.map .v) (ys.map .v) = some b → b = eqVs xs ys
  | [], [], b, h => by simp [eqL] at h; simp [eqVs, h]
  | x :: xs, y :: ys, b, h => by
    simp only [List.map_cons, eqL, Option.bind_eq_some_iff, Option.map_eq_some_iff] at h
    obtain ⟨b1, h1, b2, h2, rfl⟩ := h
    have := eqL_eqVs h2
    subst this
    simp only [eqVs]
    congr 1
    unfold eq1 at h1
    split at h1 <;> simp_all [eqV1]
  | [], _ :: _, _, h => by simp [eqL] at h
  | _ :: _, [], _, h => by simp [eqL] at h

/-- cells that are known to be whole numbers, bools, strings are these values -/
theorem plain_cells {w : World} {im : Bool → Nat → Prop} {β : Beta} {l : List CK} {xs : List AV} {c : Array Value} (hl : l.length = xs.length) (hf : (l.zip xs).all (fun p => p.1.fits p.2) = true)
    (hs : c.size = xs.length) (h : ∀ (i : Nat) (x : AV) (y : Value), xs[i]? = some x → c[i]? = some y → VR w im β x y) : xs = c.toList.map .v ∧ Fits l c.toList := by
  have key : ∀ (l : List CK) (xs : List AV) (c : List Value), l.length = xs.length → (l.zip xs).all (fun p => p.1.fits p.2) = true → c.length = xs.length →
      (∀ (i : Nat) (x : AV) (y : Value), xs[i]? = some x → c[i]? = some y → VR w im β x y) → xs = c.map .v ∧ Fits l c := by
    intro l
    induction l with
    | nil =>
      intro xs c h1 h2 h3 h4
      cases xs <;> cases c <;> simp_all [Fits]
    | cons k l ih =>
      intro xs c h1 h2 h3 h4
      cases xs with
      | nil => simp at h1
      | cons x xs =>
        cases c with
        | nil => simp at h3
        | cons y c =>
          simp only [List.zip_cons_cons, List.all_cons, Bool.and_eq_true] at h2
          obtain ⟨e1, e2⟩ := ih xs c (by simpa using h1) h2.2 (by simpa using h3) (fun i a b ha hb => h4 (i + 1) a b (by simpa using ha) (by simpa using hb))
          obtain ⟨z, rfl, hz⟩ := fits_v h2.1
          have := h4 0 (.v z) y (by simp) (by simp)
          cases this
          exact ⟨by simp [e1], hz, e2⟩
  exact key l xs c.toList hl hf (by simpa using hs) (fun i x y hx hy => h i x y hx (by simpa using hy))

theorem eqA_ok {P : Program} {w : World} {im : Bool → Nat → Prop} {β : Beta} {t : TypeId} {xs ys : List AV} {cx cy : Array Value} {b : Bool} (h : eqA P t xs ys = some b)
    (hx : VR w im β (.agg xs) (.agg cx)) (hy : VR w im β (.agg ys) (.agg cy)) :
    P.eqGuardType P.depth t = false ∧ (Op.equal t (.agg cx) (.agg cy)).run P w = .ok b w := by
  unfold eqA at h
  split at h
  · simp at h
  · rename_i hg
    simp only [Bool.or_eq_true, bne_iff_ne, ne_eq, not_or, Classical.not_not, Bool.not_eq_true] at hg
    obtain ⟨hg, ha⟩ := hg
    rw [Option.bind_eq_some_iff] at h
    obtain ⟨l, hl, h⟩ := h
    split at h
    · rename_i hc
      obtain ⟨h1, h2, h3, h4⟩ := hc
      refine ⟨hg, ?_⟩
      cases hx with
      | agg _ _ sx _ vx =>
      cases hy with
      | agg _ _ sy _ vy =>
      obtain ⟨e1, f1⟩ := plain_cells h1 h3 sx vx
      obtain ⟨e2, f2⟩ := plain_cells h2 h4 sy vy
      rw [e1, e2] at h
      have hb := eqL_eqVs h
      subst hb
      have := run_eqIn (P := P) 6 t l 10000 (by omega) hl cx.toList cy.toList f1 f2 w
      simpa [mkV, ha, Op.equal, Op.maxDepth] using this
    · simp at h

theorem binA_ok {P : Program} {w : World} {im : Bool → Nat → Prop} {β : Beta} {op : BinOp} {t : TypeId} {x y r : AV} {vx vy : Value} (h : binA P op t x y = some r)
    (hx : VR w im β x vx) (hy : VR w im β y vy) (ox oy : Operand) : ∃ v, (do eqGuard op t ox oy vx vy; binOp op t vx vy : Sem Value).run P w = .ok v w ∧ VR w im β r v := by
  unfold binA at h
  split at h
  · rename_i a b
    rw [Option.map_eq_some_iff] at h
    obtain ⟨v, hv, rfl⟩ := h
    cases hx; cases hy
    obtain ⟨h1, h2⟩ := binV_ok (w := w) hv ox oy
    exact ⟨v, by simp only [Sem.run_bind, h1, Result.andThen_ok, h2], .v v⟩
  · rename_i l m
    cases hx with
    | agg _ cx sx ox' vx =>
    cases hy with
    | agg _ cy sy oy' vy =>
    split at h
    · rw [Option.map_eq_some_iff] at h
      obtain ⟨b, hb, rfl⟩ := h
      obtain ⟨h1, h2⟩ := eqA_ok hb (VR.agg l cx sx ox' vx) (VR.agg m cy sy oy' vy)
      exact ⟨.bool b, by simp only [Sem.run_bind, run_eqGuard_agg w _ _ _ _ _ _ h1, Result.andThen_ok, binOp, h2, Sem.run_pure], .v _⟩
    · rw [Option.map_eq_some_iff] at h
      obtain ⟨b, hb, rfl⟩ := h
      obtain ⟨h1, h2⟩ := eqA_ok hb (VR.agg l cx sx ox' vx) (VR.agg m cy sy oy' vy)
      exact ⟨.bool !b, by simp only [Sem.run_bind, run_eqGuard_agg w _ _ _ _ _ _ h1, Result.andThen_ok, binOp, h2, Sem.run_pure], .v _⟩
    · simp at h
  · cases hx with
    | bp b off blk o hb =>
    cases hy
    split at h
    · rename_i e hu
      simp only [Option.some.injEq] at h; subst h
      refine ⟨.bool false, ?_, .v _⟩
      simp only [Sem.run_bind, eqGuard, binOp, run_eqNil1 hu, Result.andThen_ok]
      rfl
    · rename_i e hu
      simp only [Option.some.injEq] at h; subst h
      refine ⟨.bool true, ?_, .v _⟩
      simp only [Sem.run_bind, eqGuard, binOp, run_eqNil1 hu, Result.andThen_ok]
      rfl
    · simp at h
  · cases hx with
    | ip l f blk off cv ha hc hh =>
    cases hy
    split at h
    · rename_i e hu
      simp only [Option.some.injEq] at h; subst h
      refine ⟨.bool false, ?_, .v _⟩
      simp only [Sem.run_bind, eqGuard, binOp, run_eqNil1 hu, Result.andThen_ok]
      rfl
    · rename_i e hu
      simp only [Option.some.injEq] at h; subst h
      refine ⟨.bool true, ?_, .v _⟩
      simp only [Sem.run_bind, eqGuard, binOp, run_eqNil1 hu, Result.andThen_ok]
      rfl
    · simp at h
  · cases hy with
    | bp b off blk o hb =>
    cases hx
    split at h
    · rename_i e hu
      simp only [Option.some.injEq] at h; subst h
      refine ⟨.bool false, ?_, .v _⟩
      simp only [Sem.run_bind, eqGuard, binOp, run_eqNil2 hu, Result.andThen_ok]
      rfl
    · rename_i e hu
      simp only [Option.some.injEq] at h; subst h
      refine ⟨.bool true, ?_, .v _⟩
      simp only [Sem.run_bind, eqGuard, binOp, run_eqNil2 hu, Result.andThen_ok]
      rfl
    · simp at h
  · split at h
    case isFalse => cases h
    rename_i hn
    cases hy
    obtain ⟨a, n', c, rfl⟩ : ∃ a n' c, vx = .slice (some a) n' c := by
      cases hx with
      | sl n l f a cap blk off cv hn' ha hc hh =>
        rcases ha with ⟨h0, _⟩ | ⟨rfl, _⟩
        · omega
        · exact ⟨_, _, _, rfl⟩
    split at h
    · rename_i e hu
      simp only [Option.some.injEq] at h; subst h
      refine ⟨.bool false, ?_, .v _⟩
      simp only [Sem.run_bind, eqGuard, binOp, run_eqNilS hu, Result.andThen_ok]
      rfl
    · rename_i e hu
      simp only [Option.some.injEq] at h; subst h
      refine ⟨.bool true, ?_, .v _⟩
      simp only [Sem.run_bind, eqGuard, binOp, run_eqNilS hu, Result.andThen_ok]
      rfl
    · simp at h
  · split at h
    case isFalse => cases h
    rename_i he
    cases hy
    obtain ⟨a, n', c, rfl⟩ : ∃ a n' c, vx = .slice (some a) n' c := by
      cases hx with
      | bsl b off n e blk o a cap hb hn he ha hc => exact ⟨_, _, _, rfl⟩
      | bslU b off a hb => omega
    split at h
    · rename_i e hu
      simp only [Option.some.injEq] at h; subst h
      refine ⟨.bool false, ?_, .v _⟩
      simp only [Sem.run_bind, eqGuard, binOp, run_eqNilS hu, Result.andThen_ok]
      rfl
    · rename_i e hu
      simp only [Option.some.injEq] at h; subst h
      refine ⟨.bool true, ?_, .v _⟩
      simp only [Sem.run_bind, eqGuard, binOp, run_eqNilS hu, Result.andThen_ok]
      rfl
    · simp at h
  · simp at h

theorem unA_ok {P : Program} {w : World} {im : Bool → Nat → Prop} {β : Beta} {op : UnOp} {x r : AV} {vx : Value} (h : unA op x = some r) (hx : VR w im β x vx) :
    ∃ v, (Op.unary op vx).run P w = .ok v w ∧ VR w im β r v := by
  unfold unA at h
  split at h
  · cases hx
    split at h <;> simp only [reduceCtorEq, Option.some.injEq] at h <;> subst h
    · exact ⟨_, by simp [Op.unary, Op.intArith], .v _⟩
    · exact ⟨_, by simp [Op.unary, Op.intBits, bitI], .v _⟩
  · cases hx
    split at h <;> simp only [reduceCtorEq, Option.some.injEq] at h
    subst h
    exact ⟨_, by simp [Op.unary], .v _⟩
  · simp at h
end Go.Sy
