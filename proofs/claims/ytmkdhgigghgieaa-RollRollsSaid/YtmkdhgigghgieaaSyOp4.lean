/-
  The reader's conversions, new aggregates and slices, and builtins, against the machine's.
-/
import Derived.Test.YtmkdhgigghgieaaSyOp3
namespace Go.Sy

theorem inA_spec {P : Program} {t : TypeId} {k : IntKind} (h : inA P t = some k) : P.underlying t = some (.int k) := by
  unfold inA at h
  rw [Option.bind_eq_some_iff] at h
  obtain ⟨d, h1, h2⟩ := h
  split at h2 <;> simp at h2
  subst h2
  exact h1

/-- a world with the same memory -/
theorem MR.congr {G : Gh} {w w' : World} {β : Beta} {bx : Bx} (hM : MR G w β bx) (h : w'.heap = w.heap) (hout : w'.os = w.os ∧ w'.output = w.output ∧ w'.tape = w.tape) : MR G w' β bx ∧ Ext G allq w β w' β := by
  have hext : Ext G allq w β w' β := by
    refine ⟨by rw [h]; exact Nat.le_refl _, fun k _ _ => by rw [h], fun f k hi => ⟨?_, fun o => by simp only [World.cell?, h]⟩, .same fun _ _ _ h => h, fun b k o c E fz _ _ hc => ⟨c, fz, by rw [h]; exact hc, rfl⟩, fun _ _ h => h, hout⟩
    simpa [im, h] using hi
  refine ⟨⟨hM.len, hM.uniq, ?_, fun b k l hb hl => ?_, fun b e g l hb hl => hM.grsk hb hl fun k _ _ => by rw [h], hM.frle, hM.leold, by rw [h]; exact hM.sz⟩, hext⟩
  · intro b k o l hb hl
    obtain ⟨c, E, fz, h1, h2, h3, h4, h5⟩ := hM.born b k o l hb hl
    exact ⟨c, E, fz, by rw [h]; exact h1, h2, h3, h4, fun i x y hx hy => hext.vr (h5 i x y hx hy)⟩
  · obtain ⟨es, cl, h1, h2⟩ := hM.maps b k l hb hl
    exact ⟨es, cl, by rw [h]; exact h1, h2.imp fun _ _ h => hext.vr h⟩

theorem bytesA_spec : ∀ {l : List AV} {r : List UInt8}, bytesA l = some r → ∃ ns : List Int, l = ns.map (fun n => .v (.int .u8 n)) ∧ r = ns.map fun n => UInt8.ofNat n.toNat
  | [], r, h => by simp only [bytesA, Option.some.injEq] at h; exact ⟨[], rfl, by simp [← h]⟩
  | .v (.int .u8 n) :: l, r, h => by
    simp only [bytesA, Option.map_eq_some_iff] at h
    obtain ⟨r', h, rfl⟩ := h
    obtain ⟨ns, rfl, rfl⟩ := bytesA_spec h
    exact ⟨n :: ns, rfl, rfl⟩

theorem foldl_push (ns : List Int) (s : ByteArray) : ns.foldl (fun r n => r.push (UInt8.ofNat n.toNat)) s = ⟨s.data ++ (ns.map fun n => UInt8.ofNat n.toNat).toArray⟩ := by
  induction ns generalizing s with
  | nil => simp
  | cons n ns ih =>
    rw [List.foldl_cons, ih]
    simp [ByteArray.push]

theorem run_bytes {P : Program} {w : World} {im : Bool → Nat → Prop} {β : Beta} {blk off cap : Nat} {l : List AV} {r : List UInt8} (h : bytesA l = some r) (hl : Lies w im β blk off l) :
    (Conv.bytesToString (.slice (some ⟨blk, off, none⟩) l.length cap)).run P w = .ok (.string ⟨r.toArray⟩) w := by
  obtain ⟨ns, rfl, rfl⟩ := bytesA_spec h
  have hload : (loadCells ⟨blk, off, none⟩ ns.length).run P w = .ok (ns.map (Value.int .u8)).toArray w := by
    have := run_loadCells_list (P := P) w ⟨blk, off, none⟩ (ns.map (Value.int .u8)) (fun j v hj => by
      rw [List.getElem?_map, Option.map_eq_some_iff] at hj
      obtain ⟨n, hj, rfl⟩ := hj
      obtain ⟨y, h1, _, h2⟩ := hl j (.v (.int .u8 n)) (by simp [hj])
      cases h2
      rw [addr_add]; exact h1)
    simpa using this
  rw [List.length_map, run_bytesToString w _ _ _ ns hload, foldl_push]
  simp [ByteArray.empty, ByteArray.emptyWithCapacity]
  rfl

section
variable {P : Program} {G : Gh} {w : World} {β : Beta} {bx : Bx}

theorem cells_new {c : Array Value} {xs : List AV} (hx : xs = c.toList.map .v) (im : Bool → Nat → Prop) :
    c.size = xs.length ∧ ∀ (i : Nat) (x : AV) (y : Value), xs[i]? = some x → c[i]? = some y → VR w im β x y := by
  subst hx
  refine ⟨by simp, fun i x y h1 h2 => ?_⟩
  rw [List.getElem?_map, Option.map_eq_some_iff] at h1
  obtain ⟨z, h1, rfl⟩ := h1
  have : c[i]? = some z := by simpa using h1
  rw [this] at h2
  simp only [Option.some.injEq] at h2
  subst h2
  exact .v z

/-- the frozen mark behind a block's cells -/
theorem MR.mark (hM : MR G w β bx) {b blk o : Nat} {a : Addr} (hβ : β[b]? = some (.at blk o)) (ha : a.block = blk) : ∃ w', (markStringish a).run P w = .ok () w' ∧ MR G w' β bx ∧ Ext G allq w β w' β := by
  have hlt : b < bx.length := by have := (List.getElem?_eq_some_iff.mp hβ).1; rw [hM.len] at this; exact this
  have hl : bx[b]? = some bx[b] := List.getElem?_eq_getElem hlt
  obtain ⟨c, E, fz, h1, h2, h3, h4, h5⟩ := hM.born b blk o _ hβ hl
  have hsh : w.shape? blk = some (E, c.size) := by simp [World.shape?, h1]
  have hrun : (markStringish a).run P w = .ok () (w.freeze { block := blk, off := c.size } 1) := by
    simp [markStringish, ha, hsh]
  have hw' : (w.freeze { block := blk, off := c.size } 1).heap[blk]? = some (.cells c E (if fz.1 == fz.2 then (c.size, c.size + 1) else (min fz.1 c.size, max fz.2 (c.size + 1)))) := by
    simp [World.freeze, Array.getElem?_modify, h1]
  have := hM.write hβ hl h1 hw' rfl ?_ h4 (fun k hk => by simp [World.freeze, Array.getElem?_modify, Ne.symm hk]) (by simp [World.freeze]) ⟨rfl, rfl, rfl⟩ bx[b] h2 h5
  · refine ⟨_, hrun, ?_, this.2⟩
    have e : bx.set b bx[b] = bx := List.set_getElem_self hlt
    rw [e] at this
    exact this.1
  · rcases h3 with rfl | h3
    · right; simp
    · right
      split
      · exact Nat.le_refl _
      · simp; omega

/-- What a new piece of memory means for the reader. -/
def New (P : Program) (G : Gh) (w : World) (β : Beta) (s : Sem Value) (r : AV) (bx' : Bx) : Prop :=
  ∃ v w' β', s.run P w = .ok v w' ∧ Ext G allq w β w' β' ∧ MR G w' β' bx' ∧ VR w' (im G w' β') β' r v

theorem New.same (hM : MR G w β bx) {s : Sem Value} {r : AV} {v : Value} (h : s.run P w = .ok v w) (hv : VR w (im G w β) β r v) : New P G w β s r bx :=
  ⟨v, w, β, h, .refl _ _ _ _, hM, hv⟩

/-- a new slice of its own -/
theorem New.slice (hM : MR G w β bx) {s : Sem Value} {w1 : World} (hw1 : w1.heap = w.heap) (ho1 : w1.os = w.os ∧ w1.output = w.output ∧ w1.tape = w.tape) {xs : List AV} {c pad : Array Value} {E : TypeId} {n e cap : Nat} (hc : c.size = xs.length)
    (hone : ∀ (i : Nat) (y : Value), (c ++ pad)[i]? = some y → y.oneCell' = true) (hv : ∀ (i : Nat) (x : AV) (y : Value), xs[i]? = some x → c[i]? = some y → VR w (im G w β) β x y)
    (hn : n ≤ cap) (he : 0 < e) (hcap : cap * e ≤ (c ++ pad).size)
    (h : s.run P w = .ok (.slice (some ⟨w.heap.size, 0, none⟩) n cap) (w1.alloc (.cells (c ++ pad) E))) : New P G w β s (.bsl bx.length 0 n e) (bx ++ [xs]) := by
  obtain ⟨m1, e1⟩ := hM.congr hw1 ho1
  obtain ⟨m2, e2⟩ := m1.new (xs := xs) hc E pad hone (fun i x y hx hy => e1.vr (hv i x y hx hy))
  refine ⟨_, _, _, h, e1.trans e2, m2, ?_⟩
  have hβ : (β ++ [.at w1.heap.size 0])[bx.length]? = some (.at w1.heap.size 0) := by
    rw [List.getElem?_append_right (by rw [hM.len]; exact Nat.le_refl _)]; simp [hM.len]
  refine .bsl _ _ _ _ w1.heap.size 0 _ _ hβ hn he (.inl (by rw [hw1])) ⟨_, E, (0, 0), heap_alloc_new w1 _, by simpa using hcap⟩

theorem stringToBytes_ok (hM : MR G w β bx) (e : TypeId) (s : ByteArray) : New P G w β (Conv.stringToBytes e s) (.bsl bx.length 0 s.size 1) (bx ++ [u8s s]) := by
  let cap := Question.cut (.appendCap s.size 0 e) (w.tape w.drawn (.appendCap s.size 0 e))
  have hcap : s.size ≤ cap := by simp only [cap, Question.cut]; omega
  let c : Array Value := s.data.map fun b => .int .u8 b.toNat
  let pad : Array Value := Array.replicate (cap - s.size) (.int .u8 0)
  have hcs : c.size = s.size := by simp [c]
  have hus : u8s s = c.toList.map .v := by simp [u8s, c]
  obtain ⟨n1, n2⟩ := cells_new hus (im G w β) (w := w) (β := β)
  have hone : ∀ (i : Nat) (y : Value), (c ++ pad)[i]? = some y → y.oneCell' = true := by
    intro i y hy
    rw [Array.getElem?_append] at hy
    split at hy
    · simp only [c, Array.getElem?_map, Option.map_eq_some_iff] at hy
      obtain ⟨z, _, rfl⟩ := hy
      rfl
    · simp only [pad, Array.getElem?_replicate] at hy
      split at hy
      · simp only [Option.some.injEq] at hy; subst hy; rfl
      · simp at hy
  obtain ⟨m1, e1⟩ := hM.congr (w' := w.drew) rfl ⟨rfl, rfl, rfl⟩
  obtain ⟨m2, e2⟩ := m1.new (xs := u8s s) n1 e pad hone (fun i x y hx hy => e1.vr (n2 i x y hx hy))
  have hβ : (β ++ [.at w.drew.heap.size 0])[bx.length]? = some (.at w.drew.heap.size 0) := by
    rw [List.getElem?_append_right (by rw [hM.len]; exact Nat.le_refl _)]; simp [hM.len]
  obtain ⟨w3, r3, m3, e3⟩ := m2.mark (P := P) (a := ⟨w.drew.heap.size, 0, none⟩) hβ rfl
  refine ⟨.slice (some ⟨w.heap.size, 0, none⟩) s.size cap, w3, _, ?_, (e1.trans e2).trans e3, m3, e3.vr (.bsl _ _ _ _ w.drew.heap.size 0 _ _ hβ hcap (by omega) (.inl rfl) ⟨_, e, (0, 0), heap_alloc_new w.drew _, by simp [pad, hcs]; omega⟩)⟩
  have hch : (choose (.appendCap s.size 0 e)).run P w = .ok cap w.drew := by rw [run_choose, if_neg (by simp [Question.forced])]; rfl
  simp only [Conv.stringToBytes, Sem.run_bind, hch, Result.andThen_ok, newRow, run_newObj, Sem.run_pure]
  have : (markStringish ⟨w.drew.heap.size, 0, none⟩).run P { w.drew with heap := w.drew.heap.push (.cells (c ++ pad) e) } = .ok () w3 := r3
  simp only [c, pad] at this
  rw [this]
  rfl

theorem convA_ok (hM : MR G w β bx) {src dst : TypeId} {x r : AV} {bx' : Bx} {vx : Value} (h : convA P bx src dst x = some (r, bx')) (hx : VR w (im G w β) β x vx) :
    New P G w β (convert src dst vx) r bx' := by
  unfold convA at h
  split at h
  · rename_i s d hs hd
    split at h
    · rename_i k n
      split at h
      · rename_i k'
        simp only [Option.some.injEq, Prod.mk.injEq] at h
        obtain ⟨rfl, rfl⟩ := h
        cases hx
        refine .same hM ?_ (.v _)
        simp [convert, run_under hs, run_under hd, Conv.intToInt]
      · simp at h
    · rename_i b
      split at h
      · simp only [Option.some.injEq, Prod.mk.injEq] at h
        obtain ⟨rfl, rfl⟩ := h
        cases hx
        refine .same hM ?_ (.v _)
        simp [convert, run_under hs, run_under hd]
      · rename_i e
        split at h
        · rename_i hk
          simp only [Option.some.injEq, Prod.mk.injEq] at h
          obtain ⟨rfl, rfl⟩ := h
          cases hx
          have hu := inA_spec hk
          obtain ⟨v, w', β', r1, r2, r3, r4⟩ := stringToBytes_ok (P := P) hM e b
          exact ⟨v, w', β', by simpa [convert, run_under hs, run_under hd, run_under hu] using r1, r2, r3, r4⟩
        · simp at h
      · simp at h
    · rename_i b off n e
      split at h
      · rename_i e'
        split at h
        · rename_i hk
          have hu := inA_spec hk
          simp only [Option.bind_eq_some_iff] at h
          obtain ⟨⟨m, l⟩, hr, h⟩ := h
          simp only at h
          split at h
          · rename_i hln
            simp only [Option.map_eq_some_iff, Prod.mk.injEq] at h
            obtain ⟨l', hl', rfl, rfl⟩ := h
            simp only [readA, Option.map_eq_some_iff, Prod.mk.injEq] at hr
            obtain ⟨cs, hcs, rfl, rfl⟩ := hr
            have hconv : ∀ v : Value, (∃ a n c, v = .slice a n c) → (convert src dst v).run P w = (Conv.bytesToString v).run P w := by
              rintro v ⟨a, n, c, rfl⟩
              cases a <;> simp [convert, run_under hs, run_under hd, run_under hu]
            cases hx with
            | bsl _ _ _ _ blk ob a cap hβ hnc he ha hc =>
              have hlies := ((hM.lies hβ hcs).drop off).take (n * e)
              refine .same hM ?_ (.v _)
              rw [hconv _ ⟨_, _, _, rfl⟩]
              rcases ha with rfl | ⟨rfl, _⟩
              · have := run_bytes (P := P) (cap := cap) hl' hlies
                rw [hln] at this
                exact this
              · have hn0 : n = 0 := by omega
                subst hn0
                have : l' = [] := by simpa [bytesA] using hl'.symm
                subst this
                simp [Conv.bytesToString, loadCells, loadCellsFrom]
                rfl
            | bslU _ _ a hβ =>
              have : l' = [] := by simpa [bytesA] using hl'.symm
              subst this
              refine .same hM ?_ (.v _)
              rw [hconv _ ⟨_, _, _, rfl⟩]
              cases a <;> simp [Conv.bytesToString, loadCells, loadCellsFrom] <;> rfl
          · simp at h
        · simp at h
      · rename_i e1 e2
        split at h
        · rename_i hc
          obtain ⟨rfl, he, hk⟩ := hc
          have hu := inA_spec hk
          simp only [Option.some.injEq, Prod.mk.injEq] at h
          obtain ⟨rfl, rfl⟩ := h
          rw [hs] at hd
          simp only [Option.some.injEq, TypeDesc.slice.injEq] at hd
          subst hd
          cases hx with
          | bsl _ _ _ _ blk ob a cap hβ hnc he ha hc =>
            have ⟨w', m1, m2, m3⟩ : ∃ w', (markStringish a).run P w = .ok () w' ∧ MR G w' β bx ∧ Ext G allq w β w' β := by
              exact hM.mark hβ (by rcases ha with rfl | ⟨_, h⟩ <;> first | rfl | exact h)
            refine ⟨_, w', β, ?_, m3, m2, m3.vr (.bsl b off n e blk ob a cap hβ hnc he ha hc)⟩
            simp [convert, run_under hs, run_under hu, m1]
          | bslU _ _ a hβ => omega
        · simp at h
      · simp at h
    · rename_i n l lf
      split at h
      · rename_i e'
        split at h
        · rename_i hc
          obtain ⟨hk, hln⟩ := hc
          have hu := inA_spec hk
          simp only [Option.map_eq_some_iff, Prod.mk.injEq] at h
          obtain ⟨l', hl', rfl, rfl⟩ := h
          have hconv : ∀ v : Value, (∃ a n c, v = .slice a n c) → (convert src dst v).run P w = (Conv.bytesToString v).run P w := by
            rintro v ⟨a, n, c, rfl⟩
            cases a <;> simp [convert, run_under hs, run_under hd, run_under hu]
          cases hx with
          | sl _ _ _ a cap blk off cv hnc ha hc hr =>
          refine .same hM ?_ (.v _)
          rw [hconv _ ⟨_, _, _, rfl⟩]
          rcases ha with ⟨rfl, rfl⟩ | ⟨rfl, hm⟩
          · have : l' = [] := by simpa [bytesA] using hl'.symm
            subst this
            cases a <;> simp [Conv.bytesToString, loadCells, loadCellsFrom] <;> rfl
          · have hl : Lies w (im G w β) β blk off l := fun i x hx => ⟨cv i, (hc i (List.getElem?_eq_some_iff.mp hx).1).1, (hc i (List.getElem?_eq_some_iff.mp hx).1).2, hM.inner (hr i x hx)⟩
            have := run_bytes (P := P) (cap := cap) hl' hl
            rw [hln] at this
            exact this
        · simp at h
      · simp at h
    · simp at h
  · simp at h

theorem lenA_ok {t u : TypeId} {ts : Array TypeId} {x r : AV} {vx : Value} {im0 : Bool → Nat → Prop} (h : lenA P t x = some r) (ht : ts[0]? = some t) (hx : VR w im0 β x vx) :
    ∃ v, (Builtin.len_ ts u #[vx]).run P w = .ok v w ∧ VR w im0 β r v := by
  unfold lenA at h
  split at h
  · rename_i n e hn
    simp only [Option.some.injEq] at h; subst h
    have hu := arA_spec hn
    exact ⟨_, by simp [Builtin.len_, ht, run_under hu, goInt], .v _⟩
  · split at h
    · split at h
      · rename_i hsl
        obtain ⟨et, hu, _⟩ := isSl_spec hsl
        simp only [Option.some.injEq] at h; subst h
        cases hx
        exact ⟨_, by simp [Builtin.len_, ht, run_under hu, goInt], .v _⟩
      · simp at h
    · split at h
      · rename_i hsl
        obtain ⟨et, hu, _⟩ := isSl_spec hsl
        simp only [Option.some.injEq] at h; subst h
        cases hx <;> exact ⟨_, by simp [Builtin.len_, ht, run_under hu, goInt], .v _⟩
      · simp at h
    · split at h
      · rename_i hsl
        obtain ⟨et, hu, _⟩ := isSl_spec hsl
        simp only [Option.some.injEq] at h; subst h
        cases hx
        exact ⟨_, by simp [Builtin.len_, ht, run_under hu, goInt], .v _⟩
      · simp at h
    · split at h
      · rename_i hsl
        obtain ⟨et, hu, _⟩ := isSl_spec hsl
        simp only [Option.some.injEq] at h; subst h
        cases hx
        exact ⟨_, by simp [Builtin.len_, ht, run_under hu, goInt], .v _⟩
      · simp at h
    · split at h
      · rename_i hsl
        obtain ⟨et, hu, _⟩ := isSl_spec hsl
        simp only [Option.some.injEq] at h; subst h
        cases hx
        exact ⟨_, by simp [Builtin.len_, ht, run_under hu, goInt], .v _⟩
      · simp at h
    · split at h
      · rename_i hst
        have hu := isStr_spec hst
        simp only [Option.some.injEq] at h; subst h
        cases hx
        exact ⟨_, by simp [Builtin.len_, ht, run_under hu, goInt], .v _⟩
      · simp at h
    · simp at h

theorem minL_ok {im0 : Bool → Nat → Prop} (mx : Bool) : ∀ {l : List AV} {vs : List Value} {x r : AV} {vx : Value}, minL mx x l = some r → VR w im0 β x vx → vs.length = l.length →
    (∀ (i : Nat) (a : AV) (b : Value), l[i]? = some a → vs[i]? = some b → VR w im0 β a b) →
    ∃ v, (vs.foldlM (if mx then Builtin.max2 else Builtin.min2) vx).run P w = .ok v w ∧ VR w im0 β r v
  | [], [], x, r, vx, h, hx, _, _ => by
    simp only [minL, Option.some.injEq] at h; subst h
    exact ⟨vx, by simp, hx⟩
  | y :: l, u :: vs, x, r, vx, h, hx, hlen, hv => by
    simp only [minL, Option.bind_eq_some_iff] at h
    obtain ⟨z, hz, h⟩ := h
    have hy := hv 0 y u (by simp) (by simp)
    unfold minA at hz
    split at hz
    · simp only [Option.some.injEq] at hz; subst hz
      cases hx; cases hy
      obtain ⟨v, h1, h2⟩ := minL_ok mx h (.v _) (by simpa using hlen) (fun i a b ha hb => hv (i + 1) a b (by simpa using ha) (by simpa using hb))
      refine ⟨v, ?_, h2⟩
      rw [List.foldlM_cons]
      cases mx <;> simpa [Builtin.max2, Builtin.min2] using h1
    · simp at hz
  | [], _ :: _, _, _, _, _, _, h, _ => by simp at h
  | _ :: _, [], _, _, _, _, _, h, _ => by simp at h

/-- parts as they are told, and as they are -/
def PR (w : World) (im : Bool → Nat → Prop) (β : Beta) (xs : List (Nat × AV)) (vs : List (Nat × Value)) : Prop :=
  vs.length = xs.length ∧ ∀ (i : Nat) (a : Nat × AV) (b : Nat × Value), xs[i]? = some a → vs[i]? = some b → a.1 = b.1 ∧ VR w im β a.2 b.2

theorem foldl_set : ∀ (c : List Value) (k off : Nat) (cs : Array Value), off + k + c.length ≤ cs.size →
    ∀ j, ((c.zipIdx k).foldl (fun cs (x : Value × Nat) => cs.setIfInBounds (off + x.2) x.1) cs)[j]? = if off + k ≤ j ∧ j < off + k + c.length then c[j - (off + k)]? else cs[j]?
  | [], k, off, cs, _, j => by simp; omega
  | x :: c, k, off, cs, h, j => by
    simp only [List.length_cons] at h
    rw [List.zipIdx_cons, List.foldl_cons, foldl_set c (k + 1) off _ (by simp; omega) j]
    by_cases e : j = off + k
    · subst e
      rw [if_neg (by omega), if_pos (by simp), Array.getElem?_setIfInBounds_self_of_lt (by omega)]
      simp
    · by_cases e2 : off + (k + 1) ≤ j ∧ j < off + (k + 1) + c.length
      · rw [if_pos e2, if_pos (by simp; omega)]
        have : j - (off + k) = (j - (off + (k + 1))) + 1 := by omega
        rw [this]; simp
      · rw [if_neg e2, if_neg (by simp; omega)]
        simp [Array.getElem?_setIfInBounds_ne (Ne.symm e)]

theorem foldl_set_size : ∀ (c : List (Value × Nat)) (off : Nat) (cs : Array Value), (c.foldl (fun cs (x : Value × Nat) => cs.setIfInBounds (off + x.2) x.1) cs).size = cs.size
  | [], _, _ => rfl
  | x :: c, off, cs => by rw [List.foldl_cons, foldl_set_size]; simp

/-- parts laid over cells, told and done -/
theorem fillA_ok {im0 : Bool → Nat → Prop} {place place' : Nat → Option (Nat × Nat)} (hp : ∀ i, place i = place' i) : ∀ {xs : List (Nat × AV)} {vs : List (Nat × Value)} {cs r : List AV} {c : Array Value},
    fillA place cs xs = some r → PR w im0 β xs vs → c.size = cs.length → (∀ (i : Nat) (y : Value), c[i]? = some y → y.oneCell' = true) →
    (∀ (i : Nat) (x : AV) (y : Value), cs[i]? = some x → c[i]? = some y → VR w im0 β x y) →
    ∃ c', Instr.fill place' c vs = some c' ∧ c'.size = c.size ∧ r.length = cs.length ∧ (∀ (i : Nat) (y : Value), c'[i]? = some y → y.oneCell' = true) ∧
      (∀ (i : Nat) (x : AV) (y : Value), r[i]? = some x → c'[i]? = some y → VR w im0 β x y)
  | [], [], cs, r, c, h, _, hs, ho, hv => by
    simp only [fillA, Option.some.injEq] at h; subst h
    exact ⟨c, rfl, rfl, rfl, ho, hv⟩
  | (i, x) :: xs, (j, v) :: vs, cs, r, c, h, hpr, hs, ho, hv => by
    obtain ⟨hl, hpr⟩ := hpr
    obtain ⟨e, hx⟩ := hpr 0 (i, x) (j, v) (by simp) (by simp)
    simp only at e hx
    subst e
    simp only [fillA] at h
    split at h
    · simp at h
    · rename_i off sz hpl
      split at h
      · rename_i hc
        obtain ⟨hk, hsz, hoff⟩ := hc
        obtain ⟨g1, g2, g3⟩ := hx.cells hk
        have hsz2 := foldl_set_size v.cells.toList.zipIdx off c
        have hget := foldl_set v.cells.toList 0 off c (by simp; omega)
        obtain ⟨c', r1, r2, r3, r4, r5⟩ := fillA_ok hp (xs := xs) (vs := vs) (c := v.cells.toList.zipIdx.foldl (fun cs (x : Value × Nat) => cs.setIfInBounds (off + x.2) x.1) c) h
          ⟨by simpa using hl, fun k a b ha hb => hpr (k + 1) a b (by simpa using ha) (by simpa using hb)⟩ (by rw [hsz2, storeL_length, hs])
          (fun k y hy => by
            rw [hget k] at hy
            split at hy
            · exact g2 y (List.mem_of_getElem? hy)
            · exact ho k y hy)
          (fun k a y ha hy => by
            rw [hget k] at hy
            rw [storeL_get x.cells cs off (by omega) k] at ha
            split at hy
            · rw [if_pos (by simp at *; omega)] at ha
              exact g3 (k - off) a y ha (by simpa using hy)
            · rw [if_neg (by simp at *; omega)] at ha
              exact hv k a y ha hy)
        refine ⟨c', ?_, by rw [r2, hsz2], by rw [r3, storeL_length], r4, r5⟩
        simp only [Instr.fill, ← hp, hpl]
        rw [if_neg (by simp; omega)]
        rw [← r1]
        congr 1
        rw [← Array.foldl_toList, Array.toList_zipIdx]
      · simp at h
  | [], _ :: _, _, _, _, _, h, _, _, _ => by simp [PR] at h
  | _ :: _, [], _, _, _, _, h, _, _, _ => by simp [PR] at h
end
end Go.Sy
