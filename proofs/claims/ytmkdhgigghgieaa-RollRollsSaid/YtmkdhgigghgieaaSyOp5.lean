/-
  The reader's builds, 'make', 'append', 'copy' and 'clear', against the machine's.
-/
import Derived.Test.YtmkdhgigghgieaaSyOp4
namespace Go.Sy

theorem wrap_i64 {n : Int} (h1 : -2 ^ 63 ≤ n) (h2 : n < 2 ^ 63) : IntKind.i64.wrap n = n := by
  rw [IntKind.wrap_i64]; omega

theorem flat_get {α : Type} (l : List α) : ∀ (n i : Nat), i < n * l.length → (List.replicate n l).flatten[i]? = l[i % l.length]?
  | 0, i, h => by simp at h
  | n + 1, i, h => by
    rw [List.replicate_succ, List.flatten_cons]
    have hpos : 0 < l.length := by
      rcases Nat.eq_zero_or_pos l.length with h0 | h0
      · simp [h0] at h
      · exact h0
    by_cases hi : i < l.length
    · rw [List.getElem?_append_left hi, Nat.mod_eq_of_lt hi]
    · rw [List.getElem?_append_right (by omega), flat_get l n (i - l.length) (by rw [Nat.succ_mul] at h; omega)]
      congr 1
      rw [Nat.mod_eq_sub_mod (a := i) (by omega)]

theorem flat_len {α : Type} (l : List α) (n : Nat) : (List.replicate n l).flatten.length = n * l.length := by
  simp

/-- the cells of so many noughts -/
theorem zeros_ok {P : Program} {w : World} {im0 : Bool → Nat → Prop} {β : Beta} {e : TypeId} {n : Nat} {z : List AV} (h : zerosA P e n = some z) : ∃ v sz, (zeroValue e).run P w = .ok v w ∧ szA P e = some sz ∧ v.cells.size = sz ∧ z.length = n * sz ∧
    (∀ (k : Nat) (zero : Array Value), (zero = v.cells ∨ n * sz = 0) → k = n * sz → let c := (Array.range k).map (fun i => zero[i % zero.size]!); c.size = z.length ∧ (∀ (i : Nat) (y : Value), c[i]? = some y → y.oneCell' = true) ∧
      ∀ (i : Nat) (x : AV) (y : Value), z[i]? = some x → c[i]? = some y → VR w im0 β x y) := by
  unfold zerosA at h
  rw [Option.bind_eq_some_iff] at h
  obtain ⟨z0, hz0, h⟩ := h
  split at h
  · rename_i hs
    simp only [Option.some.injEq] at h
    obtain ⟨v, hv, e0, ho⟩ := run_zcA (w := w) hz0
    have hlen : z0.length = v.cells.size := by rw [e0]; simp
    refine ⟨v, z0.length, hv, hs, hlen.symm, by rw [← h]; simp, ?_⟩
    intro k zero hzero hk c
    have hc : ∀ (i : Nat) (y : Value), c[i]? = some y → i < n * z0.length ∧ v.cells[i % z0.length]? = some y := by
      intro i y hy
      simp only [c, Array.getElem?_map, Option.map_eq_some_iff] at hy
      obtain ⟨j, hj, rfl⟩ := hy
      have hik : i < k := by
        have := (Array.getElem?_eq_some_iff.mp hj).1
        simpa using this
      have hji : j = i := by
        rw [Array.getElem?_range] at hj
        split at hj
        · simpa using hj.symm
        · omega
      subst hji
      have hzv : zero = v.cells := hzero.resolve_right (by omega)
      subst hzv
      refine ⟨by omega, ?_⟩
      have hpos : 0 < z0.length := by
        rcases Nat.eq_zero_or_pos z0.length with h0 | h0
        · rw [h0] at hk; omega
        · exact h0
      have hlt : j % z0.length < v.cells.size := by rw [← hlen]; exact Nat.mod_lt _ hpos
      rw [← hlen, Array.getElem?_eq_getElem hlt]
      simp [hlt]
    refine ⟨by simp [c, ← h]; omega, fun i y hy => ho _ y (hc i y hy).2, fun i x y hx hy => ?_⟩
    obtain ⟨h1, h2⟩ := hc i y hy
    rw [← h, flat_get z0 n i h1, e0, List.getElem?_map, Option.map_eq_some_iff] at hx
    obtain ⟨u, hu, rfl⟩ := hx
    have : v.cells[i % z0.length]? = some u := by rw [e0] at *; simpa using hu
    rw [this] at h2
    simp only [Option.some.injEq] at h2
    subst h2
    exact .v u
  · simp at h

section
variable {P : Program} {G : Gh} {w : World} {β : Beta} {bx : Bx}

theorem buildA_ok {im0 : Bool → Nat → Prop} {t : TypeId} {xs : List (Nat × AV)} {vs : Array (Nat × Value)} {r : AV} (h : buildA P t xs = some r) (hp : PR w im0 β xs vs.toList) :
    ∃ v, (Instr.build t vs).run P w = .ok v w ∧ VR w im0 β r v := by
  unfold buildA at h
  rw [Option.bind_eq_some_iff] at h
  obtain ⟨z, hz, h⟩ := h
  have hz' := hz
  obtain ⟨v, hv, e0, ho⟩ := run_zcA (w := w) hz
  have hinfo : ∃ i, P.info? t = some i ∧ i.zero = some v := by
    unfold zcA at hz'
    rw [Option.bind_eq_some_iff] at hz'
    obtain ⟨v', h', h2⟩ := hz'
    rw [Option.bind_eq_some_iff] at h'
    obtain ⟨i, hi, hz1⟩ := h'
    have : (zeroValue t).run P w = .ok v' w := by simp [zeroValue, run_typeInfo' hi, hz1]
    rw [this] at hv
    simp only [Result.ok.injEq, and_true] at hv
    exact ⟨i, hi, by rw [hz1, hv]⟩
  obtain ⟨i, hi, hzi⟩ := hinfo
  obtain ⟨n1, n2⟩ := cells_new (w := w) (β := β) e0 im0
  split at h
  · rename_i pl hpl
    rw [Option.map_eq_some_iff] at h
    obtain ⟨cs, hf, rfl⟩ := h
    obtain ⟨c', f1, f2, f3, f4, f5⟩ := fillA_ok (place' := fun i => pl.toArray[i]?) (fun i => by simp) hf hp n1 ho n2
    refine ⟨.agg c', run_build w t vs c' ?_, .agg _ _ (by rw [f2, f3, n1]) f4 f5⟩
    unfold plA at hpl
    rw [Option.bind_eq_some_iff] at hpl
    obtain ⟨d, hd, hpl⟩ := hpl
    split at hpl
    · rename_i fs
      simp only [Program.built, hi, hd, hzi, hpl]
      exact f1
    · simp at hpl
  · rename_i hpl
    simp only [Option.bind_eq_some_iff, Option.map_eq_some_iff] at h
    obtain ⟨⟨n, e⟩, hn, sz, hs, cs, hf, rfl⟩ := h
    have hu := arA_spec hn
    obtain ⟨c', f1, f2, f3, f4, f5⟩ := fillA_ok (place' := fun i => some (i * sz, sz)) (fun i => rfl) hf hp n1 ho n2
    refine ⟨.agg c', run_build w t vs c' ?_, .agg _ _ (by rw [f2, f3, n1]) f4 f5⟩
    unfold szA at hs
    rw [Option.map_eq_some_iff] at hs
    obtain ⟨ie, hie, rfl⟩ := hs
    simp only [Program.built, hi, hu, hzi, hie]
    exact f1

theorem buildSliceA_ok (hM : MR G w β bx) {t : TypeId} {n : Nat} {xs : List (Nat × AV)} {vs : Array (Nat × Value)} {r : AV} {bx' : Bx} (h : buildSliceA P bx t n xs = some (r, bx')) (hp : PR w (im G w β) β xs vs.toList) :
    New P G w β (Instr.buildSlice t n vs) r bx' := by
  unfold buildSliceA at h
  split at h
  · rename_i hsl
    obtain ⟨e, hu, hel⟩ := isSl_spec hsl
    simp only [hel, Option.bind_some, Option.bind_eq_some_iff] at h
    obtain ⟨sz, hs, z, hz, h⟩ := h
    split at h
    · simp at h
    · rename_i hc
      simp only [Option.map_eq_some_iff, newBox, Prod.mk.injEq] at h
      obtain ⟨cs, hf, rfl, rfl⟩ := h
      obtain ⟨v, sz', h1, h2, h3, h4, h5⟩ := zeros_ok (w := w) (im0 := im G w β) (β := β) hz
      rw [hs] at h2
      simp only [Option.some.injEq] at h2
      subst h2
      obtain ⟨g1, g2, g3⟩ := h5 (n * sz) (if n * sz = 0 then #[] else v.cells) (by split <;> simp [*]) rfl
      obtain ⟨c', f1, f2, f3, f4, f5⟩ := fillA_ok (place' := fun i => some (i * sz, sz)) (fun i => rfl) hf hp g1 g2 g3
      refine New.slice hM (w1 := w) rfl ⟨rfl, rfl, rfl⟩ (c := c') (pad := #[]) (E := e) (cap := n) (by rw [f2, g1, f3]) (by simpa using f4) f5 (Nat.le_refl _) (by omega) (by simp [f2]) ?_
      simp only [Instr.buildSlice, Sem.run_bind, run_under hu, Result.andThen_ok, run_szA hs]
      rw [if_neg (by omega)]
      by_cases h0 : n * sz = 0
      · rw [if_pos h0] at f1
        rw [if_pos h0]
        simp only [Sem.run_bind, Sem.run_pure, Result.andThen_ok, f1, newRow, run_newObj, Array.append_empty]
        rfl
      · rw [if_neg h0] at f1
        rw [if_neg h0]
        simp only [Sem.run_bind, Sem.run_pure, h1, Result.andThen_ok, f1, newRow, run_newObj, Array.append_empty]
        rfl
  · simp at h

theorem buildSlice_core {t : TypeId} {n : Nat} {xs : List (Nat × AV)} {vs : Array (Nat × Value)} {r : AV} {bx' : Bx} (h : buildSliceA P bx t n xs = some (r, bx')) (hp : PR w (im G w β) β xs vs.toList) :
    ∃ (e : TypeId) (sz : Nat) (cs : List AV) (c' : Array Value), r = .bsl bx.length 0 n sz ∧ bx' = bx ++ [cs] ∧ 0 < sz ∧ c'.size = cs.length ∧ cs.length = n * sz ∧ (∀ (i : Nat) (y : Value), c'[i]? = some y → y.oneCell' = true) ∧ (∀ (i : Nat) (x : AV) (y : Value), cs[i]? = some x → c'[i]? = some y → VR w (im G w β) β x y) ∧
      (Instr.buildSlice t n vs).run P w = .ok (.slice (some ⟨w.heap.size, 0, none⟩) n n) (w.alloc (.cells (c' ++ #[]) e)) := by
  unfold buildSliceA at h
  split at h
  · rename_i hsl
    obtain ⟨e, hu, hel⟩ := isSl_spec hsl
    simp only [hel, Option.bind_some, Option.bind_eq_some_iff] at h
    obtain ⟨sz, hs, z, hz, h⟩ := h
    split at h
    · simp at h
    · rename_i hc
      simp only [Option.map_eq_some_iff, newBox, Prod.mk.injEq] at h
      obtain ⟨cs, hf, rfl, rfl⟩ := h
      obtain ⟨v, sz', h1, h2, h3, h4, h5⟩ := zeros_ok (w := w) (im0 := im G w β) (β := β) hz
      rw [hs] at h2
      simp only [Option.some.injEq] at h2
      subst h2
      obtain ⟨g1, g2, g3⟩ := h5 (n * sz) (if n * sz = 0 then #[] else v.cells) (by split <;> simp [*]) rfl
      obtain ⟨c', f1, f2, f3, f4, f5⟩ := fillA_ok (place' := fun i => some (i * sz, sz)) (fun i => rfl) hf hp g1 g2 g3
      refine ⟨e, sz, cs, c', rfl, rfl, by omega, by rw [f2, g1, f3], by rw [f3]; first | exact h4 | omega, f4, f5, ?_⟩
      simp only [Instr.buildSlice, Sem.run_bind, run_under hu, Result.andThen_ok, run_szA hs]
      rw [if_neg (by omega)]
      by_cases h0 : n * sz = 0
      · rw [if_pos h0] at f1
        rw [if_pos h0]
        simp only [Sem.run_bind, Sem.run_pure, Result.andThen_ok, f1, newRow, run_newObj, Array.append_empty]
        rfl
      · rw [if_neg h0] at f1
        rw [if_neg h0]
        simp only [Sem.run_bind, Sem.run_pure, h1, Result.andThen_ok, f1, newRow, run_newObj, Array.append_empty]
        rfl
  · simp at h

/-- a new block that no box is -/
theorem MR.fresh (hM : MR G w β bx) (o : Obj) : MR G (w.alloc o) β bx ∧ Ext G allq w β (w.alloc o) β := by
  have hlt : ∀ blk, blk < w.heap.size → (w.alloc o).heap[blk]? = w.heap[blk]? := fun blk h => heap_alloc_old (h := h) ..
  have hsz : (w.alloc o).heap.size = w.heap.size + 1 := World.size_alloc ..
  have him : ∀ f blk, im G w β f blk → blk < w.heap.size := by
    intro f blk hi
    rcases hi with h | h
    · have : G.le blk := by
        cases f
        · exact hM.frle blk h
        · exact h
      have := (hM.leold blk this).1
      have := hM.sz
      omega
    · exact h.2.1
  have e : Ext G allq w β (w.alloc o) β := by
    refine ⟨by omega, fun blk h _ => hlt blk (Nat.lt_of_lt_of_le h hM.sz), fun f blk hi => ⟨?_, fun p => cell_heap (hlt blk (him f blk hi)) p⟩, .same fun _ _ _ h => h, fun b blk p c E fz _ hb hc => ⟨c, fz, ?_, rfl⟩, fun _ _ h => h, ⟨rfl, rfl, rfl⟩⟩
    · rcases hi with h | h
      · exact .inl h
      · exact .inr ⟨h.1, by omega, h.2.2⟩
    · rw [hlt blk (Array.getElem?_eq_some_iff.mp hc).1]
      exact hc
  refine ⟨⟨hM.len, hM.uniq, ?_, fun b k l hb hl => ?_, fun b e g l hb hl => hM.grsk hb hl fun k hk _ => hlt k hk, hM.frle, hM.leold, by have := hM.sz; omega⟩, e⟩
  · intro b blk p l hb hl
    obtain ⟨c, E, fz, h1, h2, h3, h4, h5⟩ := hM.born b blk p l hb hl
    exact ⟨c, E, fz, by rw [hlt blk (Array.getElem?_eq_some_iff.mp h1).1]; exact h1, h2, h3, h4, fun i x y hx hy => e.vr (h5 i x y hx hy)⟩
  · obtain ⟨es, cl, h1, h2⟩ := hM.maps b k l hb hl
    exact ⟨es, cl, by rw [hlt k (Array.getElem?_eq_some_iff.mp h1).1]; exact h1, h2.imp fun _ _ h => e.vr h⟩

/-- a slice literal whose cells nobody changes -/
theorem litA_ok (hM : MR G w β bx) {t : TypeId} {n : Nat} {xs : List (Nat × AV)} {vs : Array (Nat × Value)} {r : AV} (h : litA P t n xs = some r) (hp : PR w (im G w β) β xs vs.toList) :
    New P G w β (Instr.buildSlice t n vs) r bx := by
  unfold litA at h
  rw [Option.bind_eq_some_iff] at h
  obtain ⟨⟨r0, b0⟩, h, hb⟩ := h
  simp only at hb
  split at hb
  case h_2 => simp at hb
  rename_i _ cs'
  split at hb
  case isFalse => simp at hb
  rename_i hall
  have hr : (n = 0 ∧ r = .ns) ∨ r = .sl n cs' false := by
    split at hb
    · simp only [Option.some.injEq] at hb
      exact .inl ⟨by assumption, hb.symm⟩
    · simp only [Option.some.injEq] at hb
      exact .inr hb.symm
  clear hb
  unfold buildSliceA at h
  split at h
  · rename_i hsl
    obtain ⟨e, hu, hel⟩ := isSl_spec hsl
    simp only [hel, Option.bind_some, Option.bind_eq_some_iff] at h
    obtain ⟨sz, hs, z, hz, h⟩ := h
    split at h
    · simp at h
    · rename_i hc
      simp only [Option.map_eq_some_iff, newBox, Prod.mk.injEq, List.nil_append] at h
      obtain ⟨cs, hf, rfl, hcs'⟩ := h
      simp only [List.cons.injEq, and_true] at hcs'
      subst hcs'
      obtain ⟨v, sz', h1, h2, h3, h4, h5⟩ := zeros_ok (w := w) (im0 := im G w β) (β := β) hz
      rw [hs] at h2
      simp only [Option.some.injEq] at h2
      subst h2
      obtain ⟨g1, g2, g3⟩ := h5 (n * sz) (if n * sz = 0 then #[] else v.cells) (by split <;> simp [*]) rfl
      obtain ⟨c', f1, f2, f3, f4, f5⟩ := fillA_ok (place' := fun i => some (i * sz, sz)) (fun i => rfl) hf hp g1 g2 g3
      obtain ⟨m1, e1⟩ := hM.fresh (.cells c' e)
      have hnew : (w.alloc (.cells c' e)).heap[w.heap.size]? = some (.cells c' e) := heap_alloc_new w _
      have hcl : c'.size = cs.length := by rw [f2, g1, f3]
      refine ⟨.slice (some ⟨w.heap.size, 0, none⟩) n n, w.alloc (.cells c' e), β, ?_, e1, m1, ?_⟩
      · simp only [Instr.buildSlice, Sem.run_bind, run_under hu, Result.andThen_ok, run_szA hs]
        rw [if_neg (by omega)]
        by_cases h0 : n * sz = 0
        · rw [if_pos h0] at f1
          rw [if_pos h0]
          simp only [Sem.run_bind, Sem.run_pure, Result.andThen_ok, f1, newRow, run_newObj, Array.append_empty]
          rfl
        · rw [if_neg h0] at f1
          rw [if_neg h0]
          simp only [Sem.run_bind, Sem.run_pure, h1, Result.andThen_ok, f1, newRow, run_newObj, Array.append_empty]
          rfl
      · have hnone : ¬ owned β w.heap.size := by
          rintro ⟨b, o, hb, ho⟩
          have := hM.lies_lt hb ho
          omega
        rcases hr with ⟨hn0, rfl⟩ | rfl
        · subst hn0
          exact .ns _
        refine .sl n cs false _ n w.heap.size 0 (fun i => c'.getD i undef) (Nat.le_refl _) (.inr ⟨rfl, .inr ⟨hM.sz, by rw [World.size_alloc]; omega, hnone⟩⟩) (fun i hi => ?_) (fun i x hx => ?_)
        · have hci : c'[i]? = some (c'[i]'(by omega)) := Array.getElem?_eq_getElem (by omega)
          rw [Array.getD_eq_getD_getElem?, hci, Nat.zero_add]
          exact ⟨by simp only [World.cell?, hnew]; exact hci, f4 _ _ hci⟩
        · have hi : i < cs.length := (List.getElem?_eq_some_iff.mp hx).1
          have hci : c'[i]? = some (c'[i]'(by omega)) := Array.getElem?_eq_getElem (by omega)
          rw [Array.getD_eq_getD_getElem?, hci]
          have hv := f5 i x _ hx hci
          have hxv := List.all_eq_true.1 hall x (List.mem_of_getElem? hx)
          cases x <;> simp [isV] at hxv
          cases hv
          exact .v _
  · simp at h

theorem makeSlice_run {t : TypeId} {n m r : AV} {vn vm : Value} {bx' : Bx} (h : makeSliceA P bx t n m = some (r, bx')) (hn : VR w (im G w β) β n vn) (hm : VR w (im G w β) β m vm) :
    ∃ (k sz : Nat) (z : List AV) (c : Array Value) (E : TypeId), r = .bsl bx.length 0 k sz ∧ bx' = bx ++ [z] ∧ 0 < sz ∧ (Instr.makeSlice t vn vm).run P w = .ok (.slice (some ⟨w.heap.size, 0, none⟩) k k) (w.alloc (.cells c E)) ∧
      c.size = z.length ∧ k * sz ≤ c.size ∧ (∀ (i : Nat) (y : Value), c[i]? = some y → y.oneCell' = true) ∧ ∀ (i : Nat) (x : AV) (y : Value), z[i]? = some x → c[i]? = some y → VR w (im G w β) β x y := by
  unfold makeSliceA at h
  split at h
  · rename_i k1 l k2 c
    split at h
    · rename_i hc
      obtain ⟨hsl, rfl, hl0⟩ := hc
      obtain ⟨e, hu, hel⟩ := isSl_spec hsl
      simp only [hel, Option.bind_some, Option.bind_eq_some_iff] at h
      obtain ⟨sz, hs, by_, hby, z, hz, h⟩ := h
      split at h
      · rename_i hb
        simp only [newBox, Option.some.injEq, Prod.mk.injEq] at h
        obtain ⟨rfl, rfl⟩ := h
        cases hn; cases hm
        obtain ⟨v, sz', h1, h2, h3, h4, h5⟩ := zeros_ok (w := w) (im0 := im G w β) (β := β) hz
        rw [hs] at h2
        simp only [Option.some.injEq] at h2
        subst h2
        obtain ⟨g1, g2, g3⟩ := h5 (l.toNat * sz) (if l.toNat * sz = 0 then #[] else v.cells) (by split <;> simp [*]) rfl
        refine ⟨l.toNat, sz, z, _, e, rfl, rfl, hb.2.2, ?_, g1, by simp, g2, g3⟩
        obtain ⟨ti, hti, rfl⟩ := Option.map_eq_some_iff.mp hby
        have hw : IntKind.i64.wrap l = l := wrap_i64 (by omega) hb.2.1
        simp only [Instr.makeSlice, asInt, asIntOf, Sem.run_bind, run_under hu, Result.andThen_ok, Sem.run_pure, run_typeInfo' hti, hw]
        rw [if_neg (by simp; omega)]
        by_cases h0 : l.toNat * sz = 0
        · simp only [Sem.run_bind, run_askRoom, Result.andThen_ok, run_szA hs, h0, if_true, newRow, run_newObj, Sem.run_pure, Array.append_empty]
          rfl
        · simp only [Sem.run_bind, run_askRoom, Result.andThen_ok, run_szA hs, h0, if_false, h1, newRow, run_newObj, Sem.run_pure, Array.append_empty]
          rfl
      · simp at h
    · simp at h
  · simp at h

theorem makeSliceA_ok (hM : MR G w β bx) {t : TypeId} {n m r : AV} {vn vm : Value} {bx' : Bx} (h : makeSliceA P bx t n m = some (r, bx')) (hn : VR w (im G w β) β n vn) (hm : VR w (im G w β) β m vm) :
    New P G w β (Instr.makeSlice t vn vm) r bx' := by
  obtain ⟨k, sz, z, c, E, rfl, rfl, h1, h2, h3, h4, h5, h6⟩ := makeSlice_run h hn hm
  exact New.slice hM (w1 := w) rfl ⟨rfl, rfl, rfl⟩ (pad := #[]) (E := E) (cap := k) h3 (by simpa using h5) h6 (Nat.le_refl _) h1 (by simpa using h4) (by simpa using h2)

/-- what 'copy' and 'append' read -/
theorem firstCells_ok (hM : MR G w β bx) {y : AV} {vy : Value} {m sz k : Nat} {ys : List AV} (h : readA bx y = some (m, ys)) (hl : ys.length = m * sz) (hk : k ≤ m) (hy : VR w (im G w β) β y vy) :
    (Builtin.lenOf vy).run P w = .ok m w ∧ ∃ cs : Array Value, (Builtin.firstCells sz k vy).run P w = .ok cs w ∧ cs.size = k * sz ∧ (∀ (i : Nat) (u : Value), cs[i]? = some u → u.oneCell' = true) ∧
      ∀ (i : Nat) (x : AV) (u : Value), (ys.take (k * sz))[i]? = some x → cs[i]? = some u → VR w (im G w β) β x u := by
  have lies : ∀ (blk off n cap : Nat) (a : Addr) (cells : List AV), a = ⟨blk, off, none⟩ → Lies w (im G w β) β blk off cells → cells.length = m * sz → vy = .slice (some a) n cap → cells = ys →
      ∃ cs : Array Value, (Builtin.firstCells sz k vy).run P w = .ok cs w ∧ cs.size = k * sz ∧ (∀ (i : Nat) (u : Value), cs[i]? = some u → u.oneCell' = true) ∧
      ∀ (i : Nat) (x : AV) (u : Value), (ys.take (k * sz))[i]? = some x → cs[i]? = some u → VR w (im G w β) β x u := by
    intro blk off n cap a cells ea hlies hlen ev ec
    subst ea; subst ev; subst ec
    have hks : k * sz ≤ cells.length := by rw [hlen]; exact Nat.mul_le_mul_right _ hk
    let f : Nat → Value := fun i => (w.cell? ⟨blk, off + i, none⟩).getD undef
    have hf : ∀ j, j < k * sz → w.cell? ((⟨blk, off, none⟩ : Addr).add j) = some (f j) := by
      intro j hj
      rw [addr_add]
      obtain ⟨u, h1, _⟩ := hlies j _ (List.getElem?_eq_getElem (by omega))
      simp [f, h1]
    have hget : ∀ (i : Nat) (u : Value), ((List.range (k * sz)).map f).toArray[i]? = some u → i < k * sz ∧ u = f i := by
      intro i u hu
      by_cases hi : i < k * sz
      · simp [hi] at hu; exact ⟨hi, hu.symm⟩
      · simp [hi] at hu
    refine ⟨((List.range (k * sz)).map f).toArray, ?_, by simp, ?_, ?_⟩
    · simp only [Builtin.firstCells]
      exact run_loadCells w _ _ f hf
    · intro i u hu
      obtain ⟨hi, rfl⟩ := hget i u hu
      obtain ⟨u', h1, h2, _⟩ := hlies i _ (List.getElem?_eq_getElem (by omega))
      have : f i = u' := by simp [f, h1]
      rw [this]; exact h2
    · intro i x u hx hu
      obtain ⟨hi, rfl⟩ := hget i u hu
      rw [List.getElem?_take] at hx
      split at hx
      · obtain ⟨u', h1, _, h2⟩ := hlies i x hx
        have : f i = u' := by simp [f, h1]
        rw [this]; exact h2
      · rename_i h; exact absurd hi h
  have none' : ∀ (a : Option Addr) (n cap : Nat), k * sz = 0 → vy = .slice a n cap →
      ∃ cs : Array Value, (Builtin.firstCells sz k vy).run P w = .ok cs w ∧ cs.size = k * sz ∧ (∀ (i : Nat) (u : Value), cs[i]? = some u → u.oneCell' = true) ∧
      ∀ (i : Nat) (x : AV) (u : Value), (ys.take (k * sz))[i]? = some x → cs[i]? = some u → VR w (im G w β) β x u := by
    intro a n cap hk0 ev
    subst ev
    refine ⟨#[], ?_, by simp [hk0], by simp, by simp⟩
    cases a
    · simp [Builtin.firstCells]
    · simp [Builtin.firstCells, hk0, loadCells, loadCellsFrom]
  unfold readA at h
  split at h
  · rename_i n l f
    simp only [Option.some.injEq, Prod.mk.injEq] at h
    obtain ⟨rfl, rfl⟩ := h
    cases hy with
    | sl _ _ _ a cap blk off cv hnc ha hc hr =>
    refine ⟨by simp [Builtin.lenOf], ?_⟩
    rcases ha with ⟨rfl, rfl⟩ | ⟨rfl, hm⟩
    · exact none' _ _ _ (by have : k = 0 := by omega
                            simp [this]) rfl
    · exact lies blk off _ _ _ l rfl (fun i x hx => ⟨cv i, (hc i (List.getElem?_eq_some_iff.mp hx).1).1, (hc i (List.getElem?_eq_some_iff.mp hx).1).2, hM.inner (hr i x hx)⟩) hl rfl rfl
  · rename_i b off n e
    rw [Option.map_eq_some_iff] at h
    obtain ⟨cs, hcs, h⟩ := h
    obtain ⟨rfl, rfl⟩ := Prod.mk.inj h
    cases hy with
    | bsl _ _ _ _ blk ob a cap hβ hnc he ha hc =>
      refine ⟨by simp [Builtin.lenOf], ?_⟩
      rcases ha with rfl | ⟨h0, _⟩
      · exact lies blk (ob + off) _ _ _ _ rfl (((hM.lies hβ hcs).drop off).take (n * e)) hl rfl rfl
      · exact none' _ _ _ (by have : k = 0 := by omega
                              simp [this]) rfl
    | bslU _ _ a hβ =>
      refine ⟨by simp [Builtin.lenOf], none' _ _ _ (by have : k = 0 := by omega
                                                       simp [this]) rfl⟩
  · rename_i b n e
    rw [Option.map_eq_some_iff] at h
    obtain ⟨cs, hcs, h⟩ := h
    obtain ⟨rfl, rfl⟩ := Prod.mk.inj h
    cases hy with
    | gs _ _ g x hb hx =>
      refine ⟨by simp [Builtin.lenOf], ?_⟩
      have hl' := (hM.grs b e g cs hb hcs).lies (im0 := im G w β) (β := β) hx (o := 0) (m := x.n * e) (by omega)
      exact lies x.blk x.off _ _ _ _ rfl hl' hl rfl rfl
  · simp only [Option.some.injEq, Prod.mk.injEq] at h
    obtain ⟨rfl, rfl⟩ := h
    cases hy
    refine ⟨by simp [Builtin.lenOf], none' _ _ _ (by have : k = 0 := by omega
                                                     simp [this]) rfl⟩
  · simp only [Option.some.injEq, Prod.mk.injEq] at h
    obtain ⟨rfl, rfl⟩ := h
    cases hy
    refine ⟨by simp [Builtin.lenOf], none' _ _ _ (by have : k = 0 := by omega
                                                     simp [this]) rfl⟩
  · rename_i s
    simp only [Option.some.injEq, Prod.mk.injEq] at h
    obtain ⟨rfl, rfl⟩ := h
    cases hy
    refine ⟨by simp [Builtin.lenOf], ?_⟩
    have hus : (u8s s).length = s.size := by simp [u8s]
    have hks : k * sz = k := by
      rcases Nat.eq_zero_or_pos k with h0 | h0
      · simp [h0]
      · have : s.size * sz = s.size * 1 := by rw [Nat.mul_one, ← hl, hus]
        have := Nat.eq_of_mul_eq_mul_left (by omega) this
        simp [this]
    refine ⟨(s.extract 0 k).data.map fun b => .int .u8 b.toNat, by simp [Builtin.firstCells], by simp [hks]; omega, ?_, ?_⟩
    · intro i u hu
      rw [Array.getElem?_map, Option.map_eq_some_iff] at hu
      obtain ⟨b, _, rfl⟩ := hu
      rfl
    · intro i x u hx hu
      rw [Array.getElem?_map, Option.map_eq_some_iff] at hu
      obtain ⟨b, hb, rfl⟩ := hu
      rw [hks, List.getElem?_take] at hx
      split at hx
      · rename_i hik
        simp only [u8s, List.getElem?_map, Option.map_eq_some_iff] at hx
        obtain ⟨b', hb', rfl⟩ := hx
        have : (s.extract 0 k).data[i]? = s.data[i]? := by
          simp [ByteArray.data_extract, Array.getElem?_extract]
          omega
        rw [this] at hb
        have hb2 : s.data[i]? = some b' := by simpa using hb'
        rw [hb] at hb2
        simp only [Option.some.injEq] at hb2
        subst hb2
        exact .v _
      · simp at hx
  · simp at h
end
end Go.Sy
