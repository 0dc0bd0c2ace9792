/-
  The reader's slice expressions, conversions and new aggregates, against the machine's.
-/
import Derived.Test.YtmkdhgigghgieaaSyOp2
namespace Go.Sy

theorem bndA_spec {most k : Nat} {x : AV} (h : bndA most x = some k) : ∃ (kd : IntKind) (i : Int), x = .v (.int kd i) ∧ 0 ≤ i ∧ i ≤ most ∧ k = i.toNat := by
  unfold bndA at h
  split at h
  · rename_i kd i
    split at h
    · rename_i hc
      simp only [Option.some.injEq] at h
      exact ⟨kd, i, rfl, hc.1, hc.2, h.symm⟩
    · simp at h
  · simp at h

section
variable {P : Program} {G : Gh} {w : World} {β : Beta} {bx : Bx} {im0 : Bool → Nat → Prop}

theorem run_bound {k : Nat} {most y : Nat} {x : AV} {v : Value} {code : BoundsCode} (h : bndA most x = some k) (hm : most ≤ y) (hv : VR w im0 β x v) :
    (Instr.sliceBound v y code).run P w = .ok k w ∧ k ≤ most := by
  obtain ⟨kd, i, rfl, h0, h1, rfl⟩ := bndA_spec h
  cases hv
  refine ⟨?_, by omega⟩
  simp only [Instr.sliceBound, asIntOf, Sem.run_bind, Sem.run_pure, Result.andThen_ok]
  rw [if_pos ⟨h0, by omega⟩]
  rfl

/-- how a bound's operand is told -/
inductive OR (w : World) (im : Bool → Nat → Prop) (β : Beta) : Option AV → Option Value → Prop
  | no : OR w im β none none
  | yes (x : AV) (v : Value) (h : VR w im β x v) : OR w im β (some x) (some v)

theorem run_bounds {isSl : Bool} {n cap h l : Nat} {lo hi : Option AV} {vlo vhi : Option Value} (hh : hiA n hi = some h) (hl : loA h lo = some l) (hn : n ≤ cap) (h1 : OR w im0 β lo vlo) (h2 : OR w im0 β hi vhi) :
    (Instr.sliceBounds isSl n cap vlo vhi none).run P w = .ok (l, h, cap) w ∧ l ≤ h ∧ h ≤ n := by
  cases h2 with
  | no =>
    simp only [hiA, Option.some.injEq] at hh
    subst hh
    cases h1 with
    | no =>
      simp only [loA, Option.some.injEq] at hl
      subst hl
      exact ⟨by simp [Instr.sliceBounds], by omega, by omega⟩
    | yes x v hv =>
      obtain ⟨e1, e2⟩ := run_bound (P := P) (y := n) (code := .sliceB) hl (Nat.le_refl _) hv
      refine ⟨?_, e2, by omega⟩
      simp only [Instr.sliceBounds, Sem.run_bind, Sem.run_pure, Result.andThen_ok, Option.isSome_none, Bool.false_eq_true, if_false, e1]
  | yes x v hv =>
    have a1 := (run_bound (P := P) (y := cap) (code := .sliceAcap) hh hn hv)
    have a2 := (run_bound (P := P) (y := cap) (code := .sliceAlen) hh hn hv)
    cases h1 with
    | no =>
      simp only [loA, Option.some.injEq] at hl
      subst hl
      refine ⟨?_, by omega, a1.2⟩
      cases isSl <;> simp [Instr.sliceBounds, a1.1, a2.1]
    | yes x' v' hv' =>
      obtain ⟨e1, e2⟩ := run_bound (P := P) (y := h) (code := .sliceB) hl (Nat.le_refl _) hv'
      refine ⟨?_, e2, a1.2⟩
      cases isSl <;> simp [Instr.sliceBounds, a1.1, a2.1, e1]

theorem slice0A_ok {t : TypeId} {x m r : AV} {lo hi : Option AV} {vx vm : Value} {vlo vhi : Option Value} (h : slice0A P t x m lo hi = some r)
    (hx : VR w (im G w β) β x vx) (h1 : OR w (im G w β) β lo vlo) (h2 : OR w (im G w β) β hi vhi) (h3 : VR w (im G w β) β m vm) :
    ∃ v, (Instr.sliceAt t vx vlo vhi (some vm)).run P w = .ok v w ∧ VR w (im G w β) β r v := by
  unfold slice0A at h
  split at h
  · rename_i hc
    simp only [Bool.and_eq_true] at hc
    obtain ⟨⟨hsl, hsz⟩, hk⟩ := hc
    obtain ⟨et, hu, hel⟩ := isSl_spec hsl
    rw [hel] at hsz
    obtain ⟨sz, hs⟩ := Option.isSome_iff_exists.mp hsz
    simp only [Option.bind_some] at hs
    split at h
    · rename_i h0
      split at h
      · rename_i hb
        simp only [Option.some.injEq] at h
        subst h
        cases h1
        cases h2 with
        | yes _ vh hvh =>
        obtain ⟨a, n, c, rfl⟩ : ∃ a n c, vx = .slice a n c := by
          cases hx <;> first | exact ⟨_, _, _, rfl⟩ | (simp [slV] at hk; done) | (cases vx <;> first | exact ⟨_, _, _, rfl⟩ | (simp [slV] at hk; done))
        have e1 := (run_bound (P := P) (y := c) (code := .slice3Acap) hb.2 (Nat.zero_le _) h3).1
        have e2 := (run_bound (P := P) (y := 0) (code := .slice3B) hb.1 (Nat.le_refl _) hvh).1
        refine ⟨.slice a 0 0, ?_, .ns a⟩
        simp only [Instr.sliceAt, Instr.slice, Sem.run_bind, run_under hu, Result.andThen_ok, Instr.sliceBounds, if_true, e1, e2, Sem.run_pure, run_szA hs]
      · simp at h
    · simp at h
  · simp at h

theorem sliceA_ok (hM : MR G w β bx) {t : TypeId} {x r : AV} {lo hi mx : Option AV} {vx : Value} {vlo vhi vmx : Option Value} (h : sliceA P bx t x lo hi mx = some r)
    (hx : VR w (im G w β) β x vx) (h1 : OR w (im G w β) β lo vlo) (h2 : OR w (im G w β) β hi vhi) (h3 : OR w (im G w β) β mx vmx) :
    ∃ v, (Instr.sliceAt t vx vlo vhi vmx).run P w = .ok v w ∧ VR w (im G w β) β r v := by
  unfold sliceA at h
  split at h
  · cases h3 with
    | yes _ _ hm => exact slice0A_ok h hx h1 h2 hm
  · split at h
    · rename_i b off
      simp only [Option.bind_eq_some_iff] at h
      obtain ⟨⟨n, e⟩, hn, sz, hs, cs, hb, h⟩ := h
      have hu := arA_spec hn
      simp only at h
      split at h
      · rename_i hc
        simp only [Option.bind_eq_some_iff, Option.some.injEq] at h
        obtain ⟨hh, hhi, ll, hlo, rfl⟩ := h
        cases h3
        cases hx with
        | bp _ _ blk ob hβ =>
        obtain ⟨c, E, fz, g1, g2, _⟩ := hM.born b blk ob cs hβ hb
        obtain ⟨e1, e2, e3⟩ := run_bounds (P := P) (isSl := false) hhi hlo (Nat.le_refl n) h1 h2
        refine ⟨.slice (some (if n = ll then ⟨blk, ob + off, none⟩ else (⟨blk, ob + off, none⟩ : Addr).add (ll * sz))) (hh - ll) (n - ll), ?_, ?_⟩
        · simp only [Instr.sliceAt, Sem.run_bind, run_under hu, Result.andThen_ok, Instr.sureAddr, Sem.run_pure, e1, run_szA hs]
        · refine .bsl b _ _ sz blk ob _ _ hβ (by omega) hc.2 ?_ ⟨c, E, fz, g1, ?_⟩
          · by_cases hnl : n = ll
            · right; rw [if_pos hnl]; exact ⟨by omega, rfl⟩
            · left; rw [if_neg hnl, addr_add, Nat.add_assoc]
          · have : ll * sz + (n - ll) * sz = n * sz := by rw [← Nat.add_mul]; congr 1; omega
            omega
      · simp at h
    · rename_i ls f
      simp only [Option.bind_eq_some_iff] at h
      obtain ⟨⟨n, e⟩, hn, sz, hs, h⟩ := h
      have hu := arA_spec hn
      simp only at h
      split at h
      · rename_i hle
        simp only [Option.bind_eq_some_iff, Option.some.injEq] at h
        obtain ⟨hh, hhi, ll, hlo, rfl⟩ := h
        cases h3
        cases hx with
        | ip _ _ blk ob cv ha hc hr =>
        obtain ⟨e1, e2, e3⟩ := run_bounds (P := P) (isSl := false) hhi hlo (Nat.le_refl n) h1 h2
        refine ⟨.slice (some (if n = ll then ⟨blk, ob, none⟩ else (⟨blk, ob, none⟩ : Addr).add (ll * sz))) (hh - ll) (n - ll), ?_, ?_⟩
        · simp only [Instr.sliceAt, Sem.run_bind, run_under hu, Result.andThen_ok, Instr.sureAddr, Sem.run_pure, e1, run_szA hs]
        · refine .sl _ _ f _ _ blk (ob + ll * sz) (fun q => cv (ll * sz + q)) (by omega) ?_ ?_ ?_
          · by_cases hnl : n = ll
            · left; refine ⟨by omega, ?_⟩
              have : hh - ll = 0 := by omega
              simp [this]
            · rw [if_neg hnl, addr_add]
              rcases ha with rfl | hm
              · exfalso; obtain ⟨h5, h6⟩ := hle; have h7 : n * sz = 0 := by simpa using h5
                rcases Nat.mul_eq_zero.mp h7 with h8 | h8 <;> omega
              · exact .inr ⟨rfl, hm⟩
          · intro q hq
            have := hc (ll * sz + q) (by simp at hq; omega)
            rw [Nat.add_assoc]; exact this
          · intro q y hy
            rw [List.getElem?_take] at hy
            split at hy
            · rw [List.getElem?_drop] at hy
              exact hr _ _ hy
            · simp at hy
      · simp at h
    · rename_i b off n e
      split at h
      · rename_i hsl
        obtain ⟨et, hu, hel⟩ := isSl_spec hsl
        simp only [hel, Option.bind_some] at h
        split at h
        · rename_i hs
          simp only [Option.bind_eq_some_iff, Option.some.injEq] at h
          obtain ⟨hh, hhi, ll, hlo, rfl⟩ := h
          cases h3
          cases hx with
          | bsl _ _ _ _ blk ob a cap hβ hnc he ha hc =>
            obtain ⟨e1, e2, e3⟩ := run_bounds (P := P) (isSl := true) hhi hlo hnc h1 h2
            refine ⟨.slice (if cap = ll then some a else (some a).map (·.add (ll * e))) (hh - ll) (cap - ll), ?_, ?_⟩
            · simp only [Instr.sliceAt, Instr.slice, Sem.run_bind, run_under hu, Result.andThen_ok, e1, run_szA hs, Sem.run_pure]
            · obtain ⟨c, E, fz, g1, g2⟩ := hc
              have hcs : ll * e + (cap - ll) * e = cap * e := by rw [← Nat.add_mul]; congr 1; omega
              by_cases hnl : cap = ll
              · rw [if_pos hnl]
                exact .bsl b _ _ e blk ob a _ hβ (by omega) he (.inr ⟨by omega, by rcases ha with rfl | ⟨_, h⟩ <;> first | rfl | exact h⟩) ⟨c, E, fz, g1, by rw [hnl] at hcs ⊢; simp; rw [hnl] at g2; omega⟩
              · rw [if_neg hnl]
                have ha' : a = ⟨blk, ob + off, none⟩ := ha.resolve_right (fun h => by omega)
                subst ha'
                refine .bsl b _ _ e blk ob _ _ hβ (by omega) he (.inl ?_) ⟨c, E, fz, g1, by omega⟩
                show (⟨blk, ob + off, none⟩ : Addr).add (ll * e) = _
                rw [addr_add, Nat.add_assoc]
          | bslU _ _ a hβ =>
            obtain ⟨e1, e2, e3⟩ := run_bounds (P := P) (isSl := true) hhi hlo (Nat.le_refl 0) h1 h2
            have h0 : ll = 0 := by omega
            have h00 : hh = 0 := by omega
            subst h0; subst h00
            refine ⟨.slice (if 0 = 0 then a else a.map (·.add (0 * 0))) (0 - 0) (0 - 0), ?_, by simpa using VR.bslU b _ a hβ⟩
            simp only [Instr.sliceAt, Instr.slice, Sem.run_bind, run_under hu, Result.andThen_ok, e1, run_szA hs, Sem.run_pure]
        · simp at h
      · simp at h
    · rename_i n ls f
      split at h
      · rename_i hsl
        obtain ⟨et, hu, hel⟩ := isSl_spec hsl
        simp only [hel, Option.bind_some, Option.bind_eq_some_iff, Option.some.injEq] at h
        obtain ⟨sz, hs, hh, hhi, ll, hlo, rfl⟩ := h
        cases h3
        cases hx with
        | sl _ _ _ a cap blk off cv hnc ha hc hr =>
        obtain ⟨e1, e2, e3⟩ := run_bounds (P := P) (isSl := true) hhi hlo hnc h1 h2
        refine ⟨.slice (if cap = ll then a else a.map (·.add (ll * sz))) (hh - ll) (cap - ll), ?_, ?_⟩
        · simp only [Instr.sliceAt, Instr.slice, Sem.run_bind, run_under hu, Result.andThen_ok, e1, run_szA hs, Sem.run_pure]
        · refine .sl _ _ f _ _ blk (off + ll * sz) (fun q => cv (ll * sz + q)) (by omega) ?_ ?_ ?_
          · by_cases hnl : cap = ll
            · left; refine ⟨by omega, ?_⟩
              have : hh - ll = 0 := by omega
              simp [this]
            · rcases ha with ⟨rfl, rfl⟩ | ⟨rfl, hm⟩
              · left; exact ⟨by omega, by simp⟩
              · right; rw [if_neg hnl]; exact ⟨by simp [addr_add], hm⟩
          · intro q hq
            have := hc (ll * sz + q) (by simp at hq; omega)
            rw [Nat.add_assoc]; exact this
          · intro q y hy
            rw [List.getElem?_take] at hy
            split at hy
            · rw [List.getElem?_drop] at hy
              exact hr _ _ hy
            · simp at hy
      · simp at h
    · rename_i s
      split at h
      · rename_i hst
        have hu := isStr_spec hst
        simp only [Option.bind_eq_some_iff, Option.some.injEq] at h
        obtain ⟨hh, hhi, ll, hlo, rfl⟩ := h
        cases h3
        cases hx
        obtain ⟨e1, e2, e3⟩ := run_bounds (P := P) (isSl := false) hhi hlo (Nat.le_refl _) h1 h2
        refine ⟨_, ?_, .v _⟩
        simp only [Instr.sliceAt, Instr.slice, Sem.run_bind, run_under hu, Result.andThen_ok, e1, Sem.run_pure, Option.isSome_none, Bool.false_eq_true, if_false]
      · simp at h
    · simp at h
end
end Go.Sy
