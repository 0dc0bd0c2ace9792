/-
  A call's answer among more boxes, and without the boxes that it made.
-/
import Derived.Test.YtijmfjpcjceejaaSyGrow
import Derived.Test.YtijmfjpcjceejaaSyArr
namespace Go.Sy

section
variable {P : Program}

/-- a call that is handed plain values alone, among any boxes -/
theorem Sound.lift {f : FuncId} {args : List AV} {b0 : Bx} {y : Value} (h : Sound P f args [] (.v y) b0) (ha : ∀ x ∈ args, isV x = true) (bx : Bx) : Sound P f args bx (.v y) bx := by
  refine ⟨h.1, fun G w β vs hz hM hs hv => (h.2 (G.call w β) w [] vs rfl hM.call hs ?_).mono ?_⟩
  · intro i x v hx hvv
    have := ha x (List.mem_of_getElem? hx)
    have hvr := hv i x v hx hvv
    cases x <;> simp [isV] at this
    cases hvr
    exact .v _
  · rintro e w' ⟨v, β', rfl, g1, g2, g3⟩
    obtain ⟨m1, e1⟩ := hM.back g1
    cases g3
    exact ⟨_, β, rfl, e1.weaken fun _ _ => rfl, m1, .v _⟩
/-- a call that is handed a pointer to a box of plain values, among any other boxes -/
theorem Sound.one {f : FuncId} {l0 l1 : List AV} {t : Bx} {y : Value} {as : List AV} (h : Sound P f (.bp 0 0 :: as) [l0] (.v y) (l1 :: t)) (has : ∀ x ∈ as, isV x = true) (h0 : l0.all isV = true) (h1 : l1.all isV = true) {bx : Bx} {q : Nat} (hq : bx[q]? = some l0) :
    Sound P f (.bp q 0 :: as) bx (.v y) (bx.set q l1) := by
  refine ⟨h.1, fun G w β vs hz hM hs hv => ?_⟩
  have hqlt : q < bx.length := (List.getElem?_eq_some_iff.mp hq).1
  have hpl : ∀ {l : List AV}, l.all isV = true → ∀ {x : AV} {v : Value} {w1 w2 : World} {i1 i2 : Bool → Nat → Prop} {β1 β2 : Beta}, x ∈ l → VR w1 i1 β1 x v → VR w2 i2 β2 x v := by
    intro l hl x v w1 w2 i1 i2 β1 β2 hx hvr
    have := List.all_eq_true.mp hl x hx
    cases x <;> simp [isV] at this
    cases hvr
    exact .v _
  have ha0 : vs[0]? = some (vs[0]'(by rw [hs]; simp)) := Array.getElem?_eq_getElem (by rw [hs]; simp)
  have hp := hv 0 _ _ rfl ha0
  generalize hv0 : vs[0]'(by rw [hs]; simp) = v0 at hp ha0
  cases hp with
  | bp _ _ blk o hβ =>
  obtain ⟨c, E, fz, b1, b2, b3, b4, b5⟩ := hM.born q blk o l0 hβ hq
  have hbl : blk < w.heap.size := hM.blt hβ
  let G1 : Gh := ⟨w.heap.size, fun _ => False, fun _ => False⟩
  have hown1 : ∀ k, owned [Lie.at blk o] k → k = blk := by
    rintro k ⟨b, p, hb, hp⟩
    rcases b with _ | b
    · simp at hb; subst hb; exact Eq.symm hp
    · simp at hb
  have hM1 : MR G1 w [.at blk o] [l0] := by
    refine ⟨rfl, ?_, ?_, fun b k l hb => ?_, fun b e g l hb => ?_, fun _ h => h.elim, fun _ h => h.elim, Nat.le_refl _⟩
    · intro b b' k p p' hb hb' hp hp'
      rcases b with _ | b <;> rcases b' with _ | b' <;> simp at hb hb' ⊢
    · intro b k o' l hb hl
      rcases b with _ | b
      · simp at hb hl
        obtain ⟨rfl, rfl⟩ := hb
        subst hl
        exact ⟨c, E, fz, b1, b2, b3, b4, fun i x y hx hy => hpl h0 (List.mem_of_getElem? hx) (b5 i x y hx hy)⟩
      · simp at hb
    · rcases b with _ | b <;> simp at hb
    · rcases b with _ | b <;> simp at hb
  refine (h.2 G1 w [.at blk o] vs rfl hM1 (by simpa using hs) ?_).mono ?_
  · intro i x v hx hvv
    rcases i with _ | i
    · rw [ha0] at hvv
      simp at hx hvv
      subst hx
      subst hvv
      exact .bp 0 0 blk o rfl
    · have hx' : as[i]? = some x := by simpa using hx
      exact hpl (l := as) (List.all_eq_true.mpr has) (List.mem_of_getElem? hx') (hv (i + 1) x v (by simpa using hx) hvv)
  rintro e w' ⟨v, β', rfl, x1, m1, hvr⟩
  cases hvr
  have hβ0 : β'[0]? = some (.at blk o) := x1.bt.at (by simp) rfl
  obtain ⟨c', E', fz', d1, d2, d3, d4, d5⟩ := m1.born 0 blk o l1 hβ0 rfl
  obtain ⟨c2, fz2, s1, s2⟩ := x1.shp 0 blk o c E fz (by simp) rfl b1
  rw [d1] at s1
  simp only [Option.some.injEq, Obj.cells.injEq] at s1
  obtain ⟨rfl, rfl, rfl⟩ := s1
  have hold : ∀ k, k < w.heap.size → k ≠ blk → w'.heap[k]? = w.heap[k]? := fun k hk hne => x1.old k hk fun ho => hne (hown1 k ho)
  have hext : Ext G allq w β w' β := by
    refine ⟨x1.sz, fun k hk ho => hold k (by have := hM.sz; omega) fun e => ho (owned_at (e ▸ hβ)), fun f k hi => ⟨hi.imp id fun h2 => ⟨h2.1, by have := x1.sz; omega, h2.2.2⟩, fun o => cell_heap (hold k (hM.imlt hi) fun e => hM.not_im hi (owned_at (e ▸ hβ))) o⟩, .same fun _ _ _ h => h, ?_, fun _ _ h => h, x1.out⟩
    intro b k o' c3 E3 fz3 _ hb hc
    by_cases e : k = blk
    · subst e
      rw [b1] at hc
      simp only [Option.some.injEq, Obj.cells.injEq] at hc
      obtain ⟨rfl, rfl, rfl⟩ := hc
      exact ⟨c', fz', d1, s2⟩
    · exact ⟨c3, fz3, by rw [hold k (hM.blt hb) e, hc], rfl⟩
  refine ⟨_, β, rfl, hext.weaken fun _ _ => rfl, ⟨by simpa using hM.len, hM.uniq, ?_, ?_, ?_, hM.frle, hM.leold, by have := x1.sz; have := hM.sz; omega⟩, .v _⟩
  · intro b k o' l hb hl
    by_cases e : b = q
    · subst e
      rw [hβ] at hb
      simp only [Option.some.injEq, Lie.at.injEq] at hb
      obtain ⟨rfl, rfl⟩ := hb
      rw [List.getElem?_set_self hqlt] at hl
      simp only [Option.some.injEq] at hl
      subst hl
      exact ⟨c', _, fz', d1, d2, d3, d4, fun i x y hx hy => hpl h1 (List.mem_of_getElem? hx) (d5 i x y hx hy)⟩
    · rw [List.getElem?_set_ne (Ne.symm e)] at hl
      obtain ⟨c3, E3, fz3, g1, g2, g3, g4, g5⟩ := hM.born b k o' l hb hl
      have hk : k ≠ blk := fun ek => e (hM.inj b q blk o' o (ek ▸ hb) hβ)
      exact ⟨c3, E3, fz3, by rw [hold k (hM.blt hb) hk, g1], g2, g3, g4, fun i x y hx hy => hext.vr (g5 i x y hx hy)⟩
  · intro b k l hb hl
    have e : b ≠ q := by rintro rfl; rw [hβ] at hb; simp at hb
    rw [List.getElem?_set_ne (Ne.symm e)] at hl
    obtain ⟨es, cl, g1, g2⟩ := hM.maps b k l hb hl
    have hk : k ≠ blk := fun ek => e (hM.uniq b q k _ _ hb hβ rfl ek.symm)
    exact ⟨es, cl, by rw [hold k (hM.lies_lt hb rfl) hk, g1], g2.imp fun _ _ h => hext.vr h⟩
  · intro b e2 g l hb hl
    have e : b ≠ q := by rintro rfl; rw [hβ] at hb; simp at hb
    rw [List.getElem?_set_ne (Ne.symm e)] at hl
    exact hM.grsk hb hl fun k hk hlk => hold k hk fun ek => e (hM.uniq b q k _ _ hb hβ hlk ek.symm)
end

theorem eqBx_refl : ∀ {bx : Bx}, (∀ l ∈ bx, eqCs l l = true) → eqBx bx bx = true
  | [], _ => rfl
  | l :: bx, h => by
    simp only [eqBx, Bool.and_eq_true]
    exact ⟨h l (by simp), eqBx_refl fun m hm => h m (by simp [hm])⟩
theorem eqCs_u8l (b : List UInt8) : eqCs (u8l b) (u8l b) = true := by
  induction b with
  | nil => rfl
  | cons x b ih =>
    show eqCs (.v (.int .u8 _) :: u8l b) (.v (.int .u8 _) :: u8l b) = true
    simp only [eqCs, eqC, eqD, eqV, ih, decide_true, beq_self_eq_true, Bool.and_self]
end Go.Sy
