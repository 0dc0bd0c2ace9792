/-
  The reader's loads, stores and new boxes, against the machine's.
-/
import Derived.Test.YtmkdhgigghgieaaSyRel
namespace Go.Sy

section types
variable {P : Program} {w : World} {t : TypeId}

theorem run_szA {n : Nat} (h : szA P t = some n) : (Go.sizeOf t).run P w = .ok n w := by
  unfold szA at h
  rw [Option.map_eq_some_iff] at h
  obtain ⟨i, h, rfl⟩ := h
  simp [Go.sizeOf, typeInfo, h]

theorem run_typeInfo' {i : TypeInfo} (h : P.info? t = some i) : (typeInfo t).run P w = .ok i w := by
  simp [typeInfo, h]

theorem run_under {d : TypeDesc} (h : P.underlying t = some d) : (underlying t).run P w = .ok d w := by
  simp [underlying, h]

theorem run_agA {b : Bool} (h : agA P t = some b) : (isAgg t).run P w = .ok b w := by
  unfold agA at h
  rw [Option.map_eq_some_iff] at h
  obtain ⟨d, h, rfl⟩ := h
  simp only [isAgg, Sem.run_bind, run_under h, Result.andThen_ok]
  cases d <;> rfl

theorem run_zcA {z : List AV} (h : zcA P t = some z) : ∃ v : Value, (zeroValue t).run P w = .ok v w ∧ z = v.cells.toList.map .v ∧ ∀ (i : Nat) (y : Value), v.cells[i]? = some y → y.oneCell' = true := by
  unfold zcA at h
  rw [Option.bind_eq_some_iff] at h
  obtain ⟨v, h, h2⟩ := h
  split at h2
  · rename_i hall
    simp only [Option.some.injEq] at h2
    refine ⟨v, ?_, h2.symm, fun i y hy => ?_⟩
    · rw [Option.bind_eq_some_iff] at h
      obtain ⟨i, hi, hz⟩ := h
      simp [zeroValue, run_typeInfo' hi, hz]
    · have := List.all_eq_true.mp hall y (List.mem_of_getElem? (i := i) (by simpa using hy))
      exact this
  · simp at h2

theorem isSl_spec (h : isSl P t = true) : ∃ e, P.underlying t = some (.slice e) ∧ elA P t = some e := by
  unfold isSl at h
  split at h
  · exact ⟨_, ‹_›, by simp [elA, *]⟩
  · simp at h

theorem isStr_spec (h : isStr P t = true) : P.underlying t = some .string := by
  unfold isStr at h
  split at h
  · assumption
  · simp at h

theorem arA_spec {n : Nat} {e : TypeId} (h : arA P t = some (n, e)) : P.underlying t = some (.array n e) := by
  unfold arA at h
  rw [Option.bind_eq_some_iff] at h
  obtain ⟨d, h1, h2⟩ := h
  split at h2 <;> simp at h2
  obtain ⟨rfl, rfl⟩ := h2
  exact h1

theorem fiA_spec {i off : Nat} {ft : TypeId} (h : fiA P t i = some (off, ft)) : ∃ (fs : Array Field) (f : Field), P.underlying t = some (.struct fs) ∧ fs[i]? = some f ∧ f.offset = off ∧ f.type = ft := by
  unfold fiA at h
  rw [Option.bind_eq_some_iff] at h
  obtain ⟨d, h1, h2⟩ := h
  split at h2 <;> simp at h2
  obtain ⟨f, h2, rfl, rfl⟩ := h2
  exact ⟨_, f, h1, h2, rfl, rfl⟩

end types

theorem _root_.List.set_getElem?_self' {α : Type} {l : List α} {i : Nat} {x : α} (h : l[i]? = some x) : l.set i x = l := by
  obtain ⟨hi, rfl⟩ := List.getElem?_eq_some_iff.mp h
  exact List.set_getElem_self hi

/-- cells that lie from a place on, and the values that stand for them -/
def Lies (w : World) (im : Bool → Nat → Prop) (β : Beta) (blk off : Nat) (l : List AV) : Prop :=
  ∀ (i : Nat) (x : AV), l[i]? = some x → ∃ y, w.cell? ⟨blk, off + i, none⟩ = some y ∧ y.oneCell' = true ∧ VR w im β x y

theorem Lies.drop {w : World} {im : Bool → Nat → Prop} {β : Beta} {blk off : Nat} {l : List AV} (h : Lies w im β blk off l) (k : Nat) : Lies w im β blk (off + k) (l.drop k) := by
  intro i x hx
  rw [List.getElem?_drop] at hx
  obtain ⟨y, h1, h2⟩ := h _ _ hx
  exact ⟨y, by rw [Nat.add_assoc]; exact h1, h2⟩

theorem Lies.take {w : World} {im : Bool → Nat → Prop} {β : Beta} {blk off : Nat} {l : List AV} (h : Lies w im β blk off l) (k : Nat) : Lies w im β blk off (l.take k) := by
  intro i x hx
  rw [List.getElem?_take] at hx
  split at hx
  · exact h _ _ hx
  · simp at hx

theorem MR.lies {G : Gh} {w : World} {β : Beta} {bx : Bx} (h : MR G w β bx) {b blk o : Nat} {l : List AV} (hb : β[b]? = some (.at blk o)) (hl : bx[b]? = some l) :
    Lies w (im G w β) β blk o l := by
  obtain ⟨c, E, fz, h1, h2, h3, h4, h5⟩ := h.born b blk o l hb hl
  intro i x hx
  have hlt : i < l.length := (List.getElem?_eq_some_iff.mp hx).1
  have hc : c[o + i]? = some (c[o + i]'(by omega)) := Array.getElem?_eq_getElem (by omega)
  exact ⟨_, by simp only [World.cell?, h1]; exact hc, h4 _ _ hc, h5 i x _ hx hc⟩

theorem GrR.lies {w : World} {im0 : Bool → Nat → Prop} {β : Beta} {e : Nat} {h : List GrE} {l : List AV} (hg : GrR w e h l) {x : GrE} (hx : x ∈ h) {o m : Nat} (hm : o + m ≤ x.n * e) :
    Lies w im0 β x.blk (x.off + o) ((l.drop o).take m) := by
  obtain ⟨_, vs, rfl, hg⟩ := hg
  obtain ⟨h1, h2, _, c, E, fz, h3, h4, _, h6, h7⟩ := hg x hx
  intro i a ha
  rw [List.getElem?_take] at ha
  split at ha
  · rw [List.getElem?_drop, List.getElem?_map, Option.map_eq_some_iff] at ha
    obtain ⟨v, hv, rfl⟩ := ha
    have hc := h7 (o + i) (by omega)
    rw [hv] at hc
    exact ⟨v, by simp only [World.cell?, h3, Nat.add_assoc]; exact hc, h6 _ _ hc, .v v⟩
  · simp at ha

theorem addr_add (blk o n : Nat) : (⟨blk, o, none⟩ : Addr).add n = ⟨blk, o + n, none⟩ := by
  unfold Addr.add
  split
  · simp [*]
  · rfl

theorem run_load' {P : Program} {w : World} {a : Addr} {v : Value} (h : w.cell? a = some v) : (load a).run P w = .ok v w := by
  simp [load, Sem.run, h]

/-- a part of cells that lie somewhere: loaded from there -/
theorem part_load {P : Program} {w : World} {im : Bool → Nat → Prop} {β : Beta} {blk o off : Nat} {l : List AV} {t : TypeId} {r : AV} (hl : Lies w im β blk o l)
    (h : partA P t l off = some r) : ∃ y, (loadVar t ⟨blk, o + off, none⟩).run P w = .ok y w ∧ VR w im β r y ∧ (agA P t = some false → y.oneCell' = true) := by
  unfold partA at h
  split at h
  · rename_i n hs hg
    split at h
    · rename_i hle
      simp only [Option.some.injEq] at h
      subst h
      have hlies := (hl.drop off).take n
      have hlen : ((l.drop off).take n).length = n := by simp; omega
      let f : Nat → Value := fun i => (w.cell? ⟨blk, o + off + i, none⟩).getD undef
      have hf : ∀ j, j < n → w.cell? ((⟨blk, o + off, none⟩ : Addr).add j) = some (f j) := by
        intro j hj
        rw [addr_add]
        obtain ⟨y, h1, _⟩ := hlies j _ (List.getElem?_eq_getElem (by omega))
        simp [f, h1]
      have hrun : (loadVar t ⟨blk, o + off, none⟩).run P w = .ok (.agg ((List.range n).map f).toArray) w := by
        simp only [loadVar, Sem.run_bind, run_agA hg, Result.andThen_ok, if_true, run_szA hs]
        rw [run_loadCells w _ n f hf]
        rfl
      have hget : ∀ (i : Nat) (y : Value), ((List.range n).map f).toArray[i]? = some y → i < n ∧ y = f i := by
        intro i y hy
        by_cases hi : i < n
        · simp [hi] at hy; exact ⟨hi, hy.symm⟩
        · simp [hi] at hy
      refine ⟨_, hrun, .agg _ _ (by simp; omega) ?_ ?_, fun hc => by rw [hg] at hc; simp at hc⟩
      · intro i y hy
        obtain ⟨hi, rfl⟩ := hget i y hy
        obtain ⟨y', h1, h2, _⟩ := hlies i _ (List.getElem?_eq_getElem (by omega))
        have : f i = y' := by simp [f, h1]
        rw [this]; exact h2
      · intro i x y hx hy
        obtain ⟨hi, rfl⟩ := hget i y hy
        obtain ⟨y', h1, _, h2⟩ := hlies i x hx
        have : f i = y' := by simp [f, h1]
        rw [this]; exact h2
    · simp at h
  · rename_i n hs hg
    obtain ⟨y, h1, h2, h3⟩ := hl off r h
    exact ⟨y, by simp [loadVar, run_agA hg, h1], h3, fun _ => h2⟩
  · simp at h

theorem loadA_ok {P : Program} {G : Gh} {w : World} {β : Beta} {bx : Bx} (hM : MR G w β bx) {t : TypeId} {a r : AV} {v : Value} (hv : VR w (im G w β) β a v)
    (h : loadA P t bx a = some r) : ∃ y, (Instr.loadAt t v).run P w = .ok y w ∧ VR w (im G w β) β r y := by
  unfold loadA at h
  split at h
  · rename_i b off
    rw [Option.bind_eq_some_iff] at h
    obtain ⟨l, hb, h⟩ := h
    cases hv with
    | bp _ _ blk o hβ =>
      obtain ⟨y, h1, h2, _⟩ := part_load (hM.lies hβ hb) h
      exact ⟨y, by simpa [Instr.loadAt, Instr.sureAddr] using h1, h2⟩
  · rename_i l f
    cases hv with
    | ip _ _ blk o cv ha hc hi =>
      have hl : Lies w (im G w β) β blk o l := fun i x hx => ⟨cv i, (hc i (List.getElem?_eq_some_iff.mp hx).1).1, (hc i (List.getElem?_eq_some_iff.mp hx).1).2, hM.inner (hi i x hx)⟩
      obtain ⟨y, h1, h2, _⟩ := part_load hl h
      exact ⟨y, by simpa [Instr.loadAt, Instr.sureAddr] using h1, h2⟩
  · rename_i b o m
    rw [Option.bind_eq_some_iff] at h
    obtain ⟨l, hb, h⟩ := h
    cases hv with
    | gp _ _ _ e g x hβ hx hm =>
      have hl : Lies w (im G w β) β x.blk (x.off + o) ((l.drop o).take m) := (hM.grs b e g l hβ hb).lies hx hm
      obtain ⟨y, h1, h2, _⟩ := part_load hl h
      exact ⟨y, by simpa [Instr.loadAt, Instr.sureAddr] using h1, h2⟩
  · simp at h

end Go.Sy

namespace Go.Sy
theorem cell_heap {w w' : World} {blk : Nat} (h : w'.heap[blk]? = w.heap[blk]?) (o : Nat) : w'.cell? ⟨blk, o, none⟩ = w.cell? ⟨blk, o, none⟩ := by
  simp only [World.cell?, h]

theorem MR.not_im {G : Gh} {w : World} {β : Beta} {bx : Bx} (hM : MR G w β bx) {f : Bool} {blk : Nat} (hi : im G w β f blk) : ¬ owned β blk := by
  rcases hi with h | h
  · cases f
    · exact (hM.leold _ (hM.frle _ h)).2
    · exact (hM.leold _ h).2
  · exact h.2.2

/-- a block that a box owns is written -/
theorem MR.write {G : Gh} {w w' : World} {β : Beta} {bx : Bx} (hM : MR G w β bx) {b blk o : Nat} {l : List AV} (hβ : β[b]? = some (.at blk o)) (hl : bx[b]? = some l)
    {c c' : Array Value} {E : TypeId} {fz fz' : Nat × Nat} (hw : w.heap[blk]? = some (.cells c E fz)) (hw' : w'.heap[blk]? = some (.cells c' E fz')) (hsz : c'.size = c.size)
    (hnf : fz' = (0, 0) ∨ c'.size ≤ fz'.1) (hone : ∀ (i : Nat) (y : Value), c'[i]? = some y → y.oneCell' = true) (hoth : ∀ k, k ≠ blk → w'.heap[k]? = w.heap[k]?)
    (hhs : w'.heap.size = w.heap.size) (hout : w'.os = w.os ∧ w'.output = w.output ∧ w'.tape = w.tape) (l' : List AV) (hlen : o + l'.length ≤ c'.size)
    (hcells : ∀ (i : Nat) (x : AV) (y : Value), l'[i]? = some x → c'[o + i]? = some y → VR w (im G w β) β x y) :
    MR G w' β (bx.set b l') ∧ Ext G allq w β w' β := by
  have hext : Ext G allq w β w' β := by
    refine ⟨Nat.le_of_eq hhs.symm, fun k hk ho => hoth k fun e => ho (owned_at (e ▸ hβ)), fun f k hi => ⟨?_, fun j => cell_heap (hoth k fun e => hM.not_im hi (owned_at (e ▸ hβ))) j⟩, .same fun _ _ _ h => h, ?_, fun _ _ h => h, hout⟩
    · exact hi.imp id fun h => ⟨h.1, by omega, h.2.2⟩
    · intro b' k o' c1 E1 fz1 _ hb hc
      by_cases e : k = blk
      · subst e
        rw [hw] at hc
        simp only [Option.some.injEq, Obj.cells.injEq] at hc
        obtain ⟨rfl, rfl, rfl⟩ := hc
        exact ⟨c', fz', hw', hsz⟩
      · exact ⟨c1, fz1, by rw [hoth k e, hc], rfl⟩
  refine ⟨⟨by simpa using hM.len, hM.uniq, ?_, ?_, ?_, hM.frle, fun k hk => ⟨(hM.leold k hk).1, (hM.leold k hk).2⟩, by have := hM.sz; omega⟩, hext⟩
  · intro b' k o' m hb hm
    by_cases e : b' = b
    · subst e
      rw [hβ] at hb
      simp only [Option.some.injEq, Lie.at.injEq] at hb
      obtain ⟨rfl, rfl⟩ := hb
      have hlt : b' < bx.length := (List.getElem?_eq_some_iff.mp hl).1
      rw [List.getElem?_set_self hlt] at hm
      simp only [Option.some.injEq] at hm
      subst hm
      exact ⟨c', E, fz', hw', hlen, hnf, hone, fun i x y hx hy => hext.vr (hcells i x y hx hy)⟩
    · rw [List.getElem?_set_ne (Ne.symm e)] at hm
      obtain ⟨c1, E1, fz1, h1, h2, h3, h4, h5⟩ := hM.born b' k o' m hb hm
      have hk : k ≠ blk := fun ek => e (hM.inj b' b blk o' o (ek ▸ hb) hβ)
      exact ⟨c1, E1, fz1, by rw [hoth k hk, h1], h2, h3, h4, fun i x y hx hy => hext.vr (h5 i x y hx hy)⟩
  · intro b' k m hb hm
    have e : b' ≠ b := by rintro rfl; rw [hβ] at hb; simp at hb
    rw [List.getElem?_set_ne (Ne.symm e)] at hm
    obtain ⟨es, cl, h1, h2⟩ := hM.maps b' k m hb hm
    have hk : k ≠ blk := by rintro rfl; rw [hw] at h1; simp at h1
    exact ⟨es, cl, by rw [hoth k hk, h1], h2.imp fun _ _ h => hext.vr h⟩
  · intro b' e g m hb hm
    have e : b' ≠ b := by rintro rfl; rw [hβ] at hb; simp at hb
    rw [List.getElem?_set_ne (Ne.symm e)] at hm
    exact hM.grsk hb hm fun k _ hk => hoth k fun ek => e (hM.uniq b' b k _ _ hb hβ hk ek.symm)

theorem setCell_heap {w : World} {blk o : Nat} {v : Value} {c : Array Value} {E : TypeId} {fz : Nat × Nat} (h : w.heap[blk]? = some (.cells c E fz)) :
    (w.setCell ⟨blk, o, none⟩ v).heap[blk]? = some (.cells (c.setIfInBounds o v) E fz) ∧ (∀ k, k ≠ blk → (w.setCell ⟨blk, o, none⟩ v).heap[k]? = w.heap[k]?) ∧ (w.setCell ⟨blk, o, none⟩ v).heap.size = w.heap.size := by
  refine ⟨?_, fun k hk => ?_, by simp [World.setCell]⟩
  · simp [World.setCell, Array.getElem?_modify, h]
  · simp [World.setCell, Array.getElem?_modify, Ne.symm hk]

theorem run_storeCells' {P : Program} (blk o : Nat) : ∀ (vs : List Value) (i : Nat) (c : Array Value) (E : TypeId) (fz : Nat × Nat) (w : World), w.heap[blk]? = some (.cells c E fz) →
    o + i + vs.length ≤ c.size → (∀ j, j < c.size → ¬ (fz.1 ≤ j ∧ j < fz.2)) → (∀ v ∈ vs, v.oneCell' = true) →
    ∃ w' c', (storeCells ⟨blk, o, none⟩ vs i).run P w = .ok () w' ∧ w'.heap[blk]? = some (.cells c' E fz) ∧ c'.size = c.size ∧
      (∀ j, c'[j]? = if o + i ≤ j ∧ j < o + i + vs.length then vs[j - (o + i)]? else c[j]?) ∧ w'.heap.size = w.heap.size ∧ (∀ k, k ≠ blk → w'.heap[k]? = w.heap[k]?) ∧ w'.os = w.os ∧ w'.output = w.output ∧ w'.tape = w.tape
  | [], i, c, E, fz, w, h, _, _, _ => ⟨w, c, rfl, h, rfl, fun j => by simp; omega, rfl, fun _ _ => rfl, rfl, rfl, rfl⟩
  | v :: vs, i, c, E, fz, w, h, hlen, hnf, hone => by
    simp only [List.length_cons] at hlen
    have hcell : w.cell? ⟨blk, o + i, none⟩ = some (c[o + i]'(by omega)) := by
      simp only [World.cell?, h]; exact Array.getElem?_eq_getElem (by omega)
    have hfr : w.frozen? ⟨blk, o + i, none⟩ = false := by
      simp only [World.frozen?, h]
      have := hnf (o + i) (by omega)
      simp; omega
    obtain ⟨s1, s2, s3⟩ := setCell_heap (v := v) (o := o + i) h
    obtain ⟨w', c', r1, r2, r3, r4, r5, r6, r7⟩ := run_storeCells' (P := P) blk o vs (i + 1) _ E fz _ s1 (by simp; omega) (by simpa using hnf) (fun u hu => hone u (by simp [hu]))
    refine ⟨w', c', ?_, r2, by simpa using r3, ?_, by omega, fun k hk => by rw [r6 k hk, s2 k hk], r7⟩
    · simp only [storeCells, Sem.run_bind, addr_add]
      rw [run_store _ _ _ _ _ (hone v (by simp))]
      simp only [hcell, hfr, Bool.false_eq_true, if_false, Result.andThen_ok]
      exact r1
    · intro j
      rw [r4 j]
      by_cases e : j = o + i
      · subst e
        rw [if_neg (by omega), if_pos (by simp)]
        simp [Array.getElem?_setIfInBounds]
        omega
      · by_cases e2 : o + (i + 1) ≤ j ∧ j < o + (i + 1) + vs.length
        · rw [if_pos e2, if_pos (by simp; omega)]
          have : j - (o + i) = (j - (o + (i + 1))) + 1 := by omega
          rw [this]; simp
        · rw [if_neg e2, if_neg (by simp; omega)]
          simp [Array.getElem?_setIfInBounds_ne (Ne.symm e)]

theorem storeL_length : ∀ (r l : List AV) (off : Nat), (storeL l off r).length = l.length
  | [], _, _ => by simp [storeL]
  | x :: r, l, off => by simp [storeL, storeL_length r]

theorem storeL_get : ∀ (r l : List AV) (off : Nat), off + r.length ≤ l.length → ∀ j, (storeL l off r)[j]? = if off ≤ j ∧ j < off + r.length then r[j - off]? else l[j]?
  | [], l, off, _, j => by simp [storeL]; omega
  | x :: r, l, off, h, j => by
    simp only [List.length_cons] at h
    simp only [storeL]
    rw [storeL_get r (l.set off x) (off + 1) (by simp; omega) j]
    by_cases e : j = off
    · subst e
      rw [if_neg (by omega), if_pos (by simp), List.getElem?_set_self (by omega)]
      simp
    · by_cases e2 : off + 1 ≤ j ∧ j < off + 1 + r.length
      · rw [if_pos e2, if_pos (by simp; omega)]
        have : j - off = (j - (off + 1)) + 1 := by omega
        rw [this]; simp
      · rw [if_neg e2, if_neg (by simp; omega), List.getElem?_set_ne (Ne.symm e)]

/-- cells of a box are written, one behind the other -/
theorem MR.storeCells {P : Program} {G : Gh} {w : World} {β : Beta} {bx : Bx} (hM : MR G w β bx) {b blk o off : Nat} {l : List AV} (hβ : β[b]? = some (.at blk o)) (hl : bx[b]? = some l)
    {xs : List AV} {vs : List Value} (hlen : vs.length = xs.length) (hoff : off + xs.length ≤ l.length) (hone : ∀ v ∈ vs, v.oneCell' = true)
    (hv : ∀ (i : Nat) (x : AV) (y : Value), xs[i]? = some x → vs[i]? = some y → VR w (im G w β) β x y) :
    ∃ w', (Go.storeCells ⟨blk, o + off, none⟩ vs).run P w = .ok () w' ∧ MR G w' β (bx.set b (storeL l off xs)) ∧ Ext G allq w β w' β := by
  obtain ⟨c, E, fz, h1, h2, h3, h4, h5⟩ := hM.born b blk o l hβ hl
  obtain ⟨w', c', r1, r2, r3, r4, r5, r6, r7⟩ := run_storeCells' (P := P) blk (o + off) vs 0 c E fz w h1 (by omega) (by rcases h3 with rfl | h3 <;> simp <;> omega) hone
  have hget : ∀ (j : Nat) (y : Value), c'[j]? = some y → (o + off ≤ j ∧ vs[j - (o + off)]? = some y) ∨ (¬ (o + off ≤ j ∧ j < o + off + vs.length) ∧ c[j]? = some y) := by
    intro j y hy
    rw [r4 j] at hy
    split at hy
    · rename_i h; exact .inl ⟨by omega, by simpa using hy⟩
    · rename_i h; exact .inr ⟨by simpa using h, hy⟩
  refine ⟨w', r1, hM.write hβ hl h1 r2 r3 (by rw [r3]; exact h3) ?_ r6 r5 r7 _ (by rw [storeL_length, r3]; exact h2) ?_⟩
  · intro j y hy
    rcases hget j y hy with ⟨_, h⟩ | ⟨_, h⟩
    · exact hone y (List.mem_of_getElem? h)
    · exact h4 j y h
  · intro i x y hx hy
    rw [storeL_get xs l off hoff i] at hx
    rcases hget _ y hy with ⟨g1, g2⟩ | ⟨g1, g2⟩
    · have hlt : o + i - (o + off) < vs.length := (List.getElem?_eq_some_iff.mp g2).1
      rw [if_pos (by omega)] at hx
      exact hv (i - off) x y hx (by rw [← g2]; congr 1; omega)
    · rw [if_neg (by omega)] at hx
      exact h5 i x y hx g2

theorem VR.cells {w : World} {im : Bool → Nat → Prop} {β : Beta} {x : AV} {v : Value} (h : VR w im β x v) (hk : x.okc = true) :
    v.cells.size = x.cells.length ∧ (∀ u ∈ v.cells.toList, u.oneCell' = true) ∧ ∀ (i : Nat) (a : AV) (u : Value), x.cells[i]? = some a → v.cells.toList[i]? = some u → VR w im β a u := by
  cases h with
  | v _ =>
    have h1 : v.oneCell' = true := hk
    have hc : v.cells = #[v] := by cases v <;> simp_all [Value.cells, Value.oneCell']
    refine ⟨by simp [hc, AV.cells], by simpa [hc] using h1, ?_⟩
    intro i a u ha hu
    rw [hc] at hu
    rcases i with _ | i
    · simp [AV.cells] at ha hu; subst ha; subst hu; exact .v _
    · simp at hu
  | agg l c hs ho h =>
    refine ⟨by simpa [Value.cells, AV.cells] using hs, ?_, ?_⟩
    · intro u hu
      simp only [Value.cells] at hu
      obtain ⟨i, hi⟩ := List.getElem?_of_mem hu
      exact ho i u (by simpa using hi)
    · intro i a u ha hu
      simp only [Value.cells] at hu
      exact h i a u (by simpa [AV.cells] using ha) (by simpa using hu)
  | tup l c hs h => simp [AV.okc] at hk
  | junk x => simp [AV.okc] at hk
  | sl n l f a cap blk off cv hn ha hc hi =>
    refine ⟨rfl, by simp [Value.cells, Value.oneCell'], ?_⟩
    intro i y u hy hu
    rcases i with _ | i
    · simp [AV.cells, Value.cells] at hy hu; subst hy; subst hu; exact .sl n l f a cap blk off cv hn ha hc hi
    · simp [Value.cells] at hu
  | ip l f blk off cv ha hc hi =>
    refine ⟨rfl, by simp [Value.cells, Value.oneCell'], ?_⟩
    intro i y u hy hu
    rcases i with _ | i
    · simp [AV.cells, Value.cells] at hy hu; subst hy; subst hu; exact .ip l f blk off cv ha hc hi
    · simp [Value.cells] at hu
  | bp b off blk o hb =>
    refine ⟨rfl, by simp [Value.cells, Value.oneCell'], ?_⟩
    intro i y u hy hu
    rcases i with _ | i
    · simp [AV.cells, Value.cells] at hy hu; subst hy; subst hu; exact .bp b off blk o hb
    · simp [Value.cells] at hu
  | bsl b off n e blk o a cap hb hn he ha hc =>
    refine ⟨rfl, by simp [Value.cells, Value.oneCell'], ?_⟩
    intro i y u hy hu
    rcases i with _ | i
    · simp [AV.cells, Value.cells] at hy hu; subst hy; subst hu; exact .bsl b off n e blk o a cap hb hn he ha hc
    · simp [Value.cells] at hu
  | bslU b off a hb =>
    refine ⟨rfl, by simp [Value.cells, Value.oneCell'], ?_⟩
    intro i y u hy hu
    rcases i with _ | i
    · simp [AV.cells, Value.cells] at hy hu; subst hy; subst hu; exact .bslU b off a hb
    · simp [Value.cells] at hu
  | fn f pre caps pv cv hp hc h1 h2 =>
    refine ⟨rfl, by simp [Value.cells, Value.oneCell'], ?_⟩
    intro i y u hy hu
    rcases i with _ | i
    · simp [AV.cells, Value.cells] at hy hu; subst hy; subst hu; exact .fn f pre caps pv cv hp hc h1 h2
    · simp [Value.cells] at hu
  | mp b blk hb =>
    refine ⟨rfl, by simp [Value.cells, Value.oneCell'], ?_⟩
    intro i y u hy hu
    rcases i with _ | i
    · simp [AV.cells, Value.cells] at hy hu; subst hy; subst hu; exact .mp b blk hb
    · simp [Value.cells] at hu
  | gs b e g x hb hx =>
    refine ⟨rfl, by simp [Value.cells, Value.oneCell'], ?_⟩
    intro i y u hy hu
    rcases i with _ | i
    · simp [AV.cells, Value.cells] at hy hu; subst hy; subst hu; exact .gs b e g x hb hx
    · simp [Value.cells] at hu
  | gp b o m e g x hb hx hm =>
    refine ⟨rfl, by simp [Value.cells, Value.oneCell'], ?_⟩
    intro i y u hy hu
    rcases i with _ | i
    · simp [AV.cells, Value.cells] at hy hu; subst hy; subst hu; exact .gp b o m e g x hb hx hm
    · simp [Value.cells] at hu
  | ns a =>
    refine ⟨rfl, by simp [Value.cells, Value.oneCell'], ?_⟩
    intro i y u hy hu
    rcases i with _ | i
    · simp [AV.cells, Value.cells] at hy hu; subst hy; subst hu; exact .ns a
    · simp [Value.cells] at hu

end Go.Sy

namespace Go.Sy
theorem storeA_ok {P : Program} {G : Gh} {w : World} {β : Beta} {bx bx' : Bx} (hM : MR G w β bx) {t : TypeId} {a x : AV} {va vx : Value} (ha : VR w (im G w β) β a va)
    (hx : VR w (im G w β) β x vx) (h : storeA P t bx a x = some bx') :
    ∃ w', (Instr.storeAt t va vx).run P w = .ok () w' ∧ MR G w' β bx' ∧ Ext G allq w β w' β := by
  unfold storeA at h
  split at h
  · rename_i b off n hs
    rw [Option.bind_eq_some_iff] at h
    obtain ⟨l, hb, h⟩ := h
    split at h
    · rename_i hc
      obtain ⟨hk, hn, hoff⟩ := hc
      simp only [Option.some.injEq] at h
      subst h
      obtain ⟨g1, g2, g3⟩ := hx.cells hk
      cases ha with
      | bp _ _ blk o hβ =>
        obtain ⟨w', r1, r2, r3⟩ := hM.storeCells (P := P) (xs := x.cells) (vs := vx.cells.toList) (off := off) hβ hb (by simpa using g1) (by omega) g2 g3
        refine ⟨w', ?_, r2, r3⟩
        simp only [Instr.storeAt, Instr.sureAddr, Sem.run_bind, Sem.run_pure, Result.andThen_ok, storeVar, run_szA hs]
        rw [if_neg (by simp; omega)]
        exact r1
    · simp at h
  · simp at h

/-- a new box -/
theorem MR.new {G : Gh} {w : World} {β : Beta} {bx : Bx} (hM : MR G w β bx) {xs : List AV} {c : Array Value} (hc : c.size = xs.length) (E : TypeId) (pad : Array Value)
    (hone : ∀ (i : Nat) (y : Value), (c ++ pad)[i]? = some y → y.oneCell' = true) (hv : ∀ (i : Nat) (x : AV) (y : Value), xs[i]? = some x → c[i]? = some y → VR w (im G w β) β x y) :
    MR G (w.alloc (.cells (c ++ pad) E)) (β ++ [.at w.heap.size 0]) (bx ++ [xs]) ∧ Ext G allq w β (w.alloc (.cells (c ++ pad) E)) (β ++ [.at w.heap.size 0]) := by
  have hold : ∀ k, k < w.heap.size → (w.alloc (.cells (c ++ pad) E)).heap[k]? = w.heap[k]? := fun k hk => heap_alloc_old (h := hk) ..
  have hnew : (w.alloc (.cells (c ++ pad) E)).heap[w.heap.size]? = some (.cells (c ++ pad) E) := heap_alloc_new w _
  have hsize : (w.alloc (.cells (c ++ pad) E)).heap.size = w.heap.size + 1 := World.size_alloc ..
  have hbo : ∀ (b blk o : Nat), β[b]? = some (.at blk o) → blk < w.heap.size := by
    intro b blk o hb
    have hlt : b < bx.length := by have := (List.getElem?_eq_some_iff.mp hb).1; rw [hM.len] at this; exact this
    obtain ⟨c1, E1, fz1, h1, _⟩ := hM.born b blk o _ hb (List.getElem?_eq_getElem hlt)
    exact (Array.getElem?_eq_some_iff.mp h1).1
  have hget : ∀ (b : Nat) (p : Lie), (β ++ [.at w.heap.size 0])[b]? = some p → β[b]? = some p ∨ (b = β.length ∧ p = .at w.heap.size 0) := by
    intro b p hb
    rw [List.getElem?_append] at hb
    split at hb
    · exact .inl hb
    · rename_i hge
      obtain ⟨h1, h2⟩ := List.getElem?_eq_some_iff.mp hb
      simp at h1
      refine .inr ⟨by omega, ?_⟩
      have : b - β.length = 0 := by omega
      simp [this] at h2
      exact h2.symm
  have hown : ∀ k, owned (β ++ [.at w.heap.size 0]) k → owned β k ∨ k = w.heap.size := by
    rintro k ⟨b, p, hb, hp⟩
    rcases hget b _ hb with h | ⟨_, h⟩
    · exact .inl ⟨b, p, h, hp⟩
    · subst h; exact .inr (Eq.symm hp)
  have hbt : ∀ (b : Nat) (p : Lie), β[b]? = some p → (β ++ [.at w.heap.size 0])[b]? = some p := by
    intro b p hb
    rw [List.getElem?_append_left (List.getElem?_eq_some_iff.mp hb).1]; exact hb
  have hext : Ext G allq w β (w.alloc (.cells (c ++ pad) E)) (β ++ [.at w.heap.size 0]) := by
    refine ⟨by omega, fun k hk _ => hold k (by have := hM.sz; omega), ?_, .same fun b p _ hb => hbt b p hb, ?_, ?_, ⟨rfl, rfl, rfl⟩⟩
    · intro f k hi
      have hk : k < w.heap.size := by
        rcases hi with h | h
        · have : G.le k := by cases f <;> first | exact hM.frle _ h | exact h
          have := (hM.leold k this).1; have := hM.sz; omega
        · exact h.2.1
      refine ⟨hi.imp id fun h => ⟨h.1, by omega, fun ho => ?_⟩, fun j => cell_heap (hold k hk) j⟩
      rcases hown k ho with h1 | h1
      · exact h.2.2 h1
      · omega
    · intro b k o c1 E1 fz1 _ hb hc1
      exact ⟨c1, fz1, by rw [hold k (hbo b k o hb), hc1], rfl⟩
    · intro k hk ho
      rcases hown k ho with h | h
      · exact h
      · have := hM.sz; omega
  refine ⟨⟨by simp [hM.len], ?_, ?_, ?_, ?_, hM.frle, ?_, by have := hM.sz; omega⟩, hext⟩
  · intro b b' k p p' hb hb' hp hp'
    rcases hget b _ hb with h | ⟨h, h2⟩ <;> rcases hget b' _ hb' with h' | ⟨h', h2'⟩
    · exact hM.uniq b b' k p p' h h' hp hp'
    · subst h2'; have := hM.lies_lt h hp; have : w.heap.size = k := hp'; omega
    · subst h2; have := hM.lies_lt h' hp'; have : w.heap.size = k := hp; omega
    · omega
  · intro b k o m hb hm
    rcases hget b _ hb with h | ⟨h, h2⟩
    · have hlt : b < bx.length := by have := (List.getElem?_eq_some_iff.mp h).1; rw [hM.len] at this; exact this
      rw [List.getElem?_append_left hlt] at hm
      obtain ⟨c1, E1, fz1, h1, h2, h3, h4, h5⟩ := hM.born b k o m h hm
      exact ⟨c1, E1, fz1, by rw [hold k (hbo b k o h), h1], h2, h3, h4, fun i x y hx hy => hext.vr (h5 i x y hx hy)⟩
    · simp at h2
      obtain ⟨rfl, rfl⟩ := h2
      rw [List.getElem?_append_right (by rw [h, hM.len]; exact Nat.le_refl _)] at hm
      have : b - bx.length = 0 := by rw [h, hM.len]; omega
      simp [this] at hm
      subst hm
      refine ⟨_, E, (0, 0), hnew, by simp; omega, .inl rfl, hone, fun i x y hx hy => hext.vr (hv i x y hx ?_)⟩
      have hlt : i < xs.length := (List.getElem?_eq_some_iff.mp hx).1
      rw [Nat.zero_add, Array.getElem?_append_left (by omega)] at hy
      exact hy
  · intro b k m hb hm
    rcases hget b _ hb with h | ⟨h, h2⟩
    · have hlt : b < bx.length := by have := (List.getElem?_eq_some_iff.mp h).1; rw [hM.len] at this; exact this
      rw [List.getElem?_append_left hlt] at hm
      obtain ⟨es, cl, h1, h2⟩ := hM.maps b k m h hm
      exact ⟨es, cl, by rw [hold k (hM.lies_lt h rfl), h1], h2.imp fun _ _ h => hext.vr h⟩
    · simp at h2
  · intro b e g m hb hm
    rcases hget b _ hb with h | ⟨h, h2⟩
    · have hlt : b < bx.length := by have := (List.getElem?_eq_some_iff.mp h).1; rw [hM.len] at this; exact this
      rw [List.getElem?_append_left hlt] at hm
      exact hM.grsk h hm fun k hk _ => hold k hk
    · simp at h2
  · intro k hk
    refine ⟨(hM.leold k hk).1, fun ho => ?_⟩
    rcases hown k ho with h | h
    · exact (hM.leold k hk).2 h
    · have := (hM.leold k hk).1; have := hM.sz; omega

/-- a new box that lies nowhere yet, or is not there yet -/
theorem MR.newU {G : Gh} {w : World} {β : Beta} {bx : Bx} (hM : MR G w β bx) (l0 : List AV) {loc : Lie} (hloc : ∀ k, ¬ loc.lies k) (hng : ∀ e h, loc ≠ .gr e h := by intro _ _ h; cases h) : MR G w (β ++ [loc]) (bx ++ [l0]) ∧ Ext G allq w β w (β ++ [loc]) := by
  have hget : ∀ (b k : Nat) (p : Lie), (β ++ [loc])[b]? = some p → p.lies k → β[b]? = some p := by
    intro b k p hb hp
    rw [List.getElem?_append] at hb
    split at hb
    · exact hb
    · obtain ⟨h1, h2⟩ := List.getElem?_eq_some_iff.mp hb
      simp at h1
      have : b - β.length = 0 := by omega
      simp [this] at h2
      subst h2
      exact absurd hp (hloc _)
  have hown : ∀ k, owned (β ++ [loc]) k ↔ owned β k := by
    intro k
    constructor
    · rintro ⟨b, p, hb, hp⟩
      exact ⟨b, p, hget b k p hb hp, hp⟩
    · rintro ⟨b, p, hb, hp⟩
      exact ⟨b, p, by rw [List.getElem?_append_left (List.getElem?_eq_some_iff.mp hb).1]; exact hb, hp⟩
  have hext : Ext G allq w β w (β ++ [loc]) := by
    refine ⟨Nat.le_refl _, fun _ _ _ => rfl, fun f k hi => ⟨?_, fun _ => rfl⟩, .same fun b p _ hb => by rw [List.getElem?_append_left (List.getElem?_eq_some_iff.mp hb).1]; exact hb, fun b k o c1 E1 fz1 _ hb hc1 => ⟨c1, fz1, hc1, rfl⟩, fun k _ ho => (hown k).mp ho, ⟨rfl, rfl, rfl⟩⟩
    exact hi.imp id fun h => ⟨h.1, h.2.1, fun ho => h.2.2 ((hown k).mp ho)⟩
  refine ⟨⟨by simp [hM.len], fun b b' k p p' hb hb' hp hp' => hM.uniq b b' k p p' (hget _ _ _ hb hp) (hget _ _ _ hb' hp') hp hp', ?_, ?_, ?_, hM.frle, fun k hk => ⟨(hM.leold k hk).1, fun ho => (hM.leold k hk).2 ((hown k).mp ho)⟩, hM.sz⟩, hext⟩
  · intro b k o m hb hm
    have h := hget b k _ hb rfl
    have hlt : b < bx.length := by have := (List.getElem?_eq_some_iff.mp h).1; rw [hM.len] at this; exact this
    rw [List.getElem?_append_left hlt] at hm
    obtain ⟨c1, E1, fz1, h1, h2, h3, h4, h5⟩ := hM.born b k o m h hm
    exact ⟨c1, E1, fz1, h1, h2, h3, h4, fun i x y hx hy => hext.vr (h5 i x y hx hy)⟩
  · intro b k m hb hm
    have h := hget b k _ hb rfl
    have hlt : b < bx.length := by have := (List.getElem?_eq_some_iff.mp h).1; rw [hM.len] at this; exact this
    rw [List.getElem?_append_left hlt] at hm
    obtain ⟨es, cl, h1, h2⟩ := hM.maps b k m h hm
    exact ⟨es, cl, h1, h2.imp fun _ _ h => hext.vr h⟩
  · intro b e g m hb hm
    have h : β[b]? = some (.gr e g) := by
      rw [List.getElem?_append] at hb
      split at hb
      · exact hb
      · obtain ⟨h1, h2⟩ := List.getElem?_eq_some_iff.mp hb
        simp at h1
        have : b - β.length = 0 := by omega
        simp [this] at h2
        exact absurd h2 (hng e g)
    have hlt : b < bx.length := by have := (List.getElem?_eq_some_iff.mp h).1; rw [hM.len] at this; exact this
    rw [List.getElem?_append_left hlt] at hm
    exact hM.grs b e g m h hm

end Go.Sy
