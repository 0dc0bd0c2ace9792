/-
  What it is for the reader's answer to a call to be right, and what a caller makes of it.
-/
import Derived.Test.YtmkdhgigghgieaaSyOp6
namespace Go.Sy

/-- The call answers so, whatever the memory is, and does nothing else to it. -/
def Sound (P : Program) (f : FuncId) (args : List AV) (bx : Bx) (r : AV) (bx' : Bx) : Prop :=
  (∀ (vs : Array Value) (w : World), (callFunc f vs).run P w = .ok (.enter f vs) w) ∧ ∀ (G : Gh) (w : World) (β : Beta) (vs : Array Value), G.z0 = w.heap.size → MR G w β bx → vs.size = args.length →
    (∀ (i : Nat) (x : AV) (v : Value), args[i]? = some x → vs[i]? = some v → VR w (im G w β) β x v) →
    Calls P f vs w fun e w' => ∃ v β', e = .returned v ∧ Ext G (fun b => decide (b < bx.length)) w β w' β' ∧ MR G w' β' bx' ∧ VR w' (im G w' β') β' r v

theorem frz_ok {w : World} {G : Gh} {β : Beta} {bx : Bx} (hM : MR G w β bx) (lent : Bool) : ∀ (n : Nat) {x : AV} {v : Value} {im2 : Bool → Nat → Prop} {β2 : Beta}, VR w (im G w β) β x v →
    (∀ g blk, (lent = true ∨ g = false) → im G w β g blk → im2 g blk) → (∀ (b blk o : Nat), β[b]? = some (.at blk o) → im2 lent blk) → VR w im2 β2 (frz bx lent n x) v
  | 0, x, v, im2, β2, hx, _, _ => .junk v
  | n + 1, x, v, im2, β2, hx, h1, h2 => by
    have ih := @frz_ok w G β bx hM lent n
    cases hx with
    | v _ => exact .v _
    | agg l c hs ho h =>
      refine .agg _ c (by simpa using hs) ho fun i x y hx hy => ?_
      rw [List.getElem?_map, Option.map_eq_some_iff] at hx
      obtain ⟨x0, hx, rfl⟩ := hx
      exact ih (h i x0 y hx hy) h1 h2
    | tup l c hs h =>
      refine .tup _ c (by simpa using hs) fun i x y hx hy => ?_
      rw [List.getElem?_map, Option.map_eq_some_iff] at hx
      obtain ⟨x0, hx, rfl⟩ := hx
      exact ih (h i x0 y hx hy) h1 h2
    | sl m l f a cap blk off cv hn ha hc h =>
      simp only [frz]
      split
      · exact .junk _
      · rename_i hf
        have hf' : lent = true ∨ f = false := by cases lent <;> cases f <;> simp_all
        refine .sl m l f a cap blk off cv hn (ha.imp id fun h => ⟨h.1, h1 _ _ hf' h.2⟩) hc fun i x hx => (h i x hx).mono (fun g blk hg => ⟨h1 _ _ ?_ hg, fun _ => rfl⟩) (fun b p _ h => by simp at h) (fun b blk o c E fz h => by simp at h)
        rcases hf' with h | h
        · exact .inl h
        · right; simp [h]
    | ip l f blk off cv ha hc h =>
      simp only [frz]
      split
      · exact .junk _
      · rename_i hf
        have hf' : lent = true ∨ f = false := by cases lent <;> cases f <;> simp_all
        refine .ip l f blk off cv (ha.imp id fun h => h1 _ _ hf' h) hc fun i x hx => (h i x hx).mono (fun g blk hg => ⟨h1 _ _ ?_ hg, fun _ => rfl⟩) (fun b p _ h => by simp at h) (fun b blk o c E fz h => by simp at h)
        rcases hf' with h | h
        · exact .inl h
        · right; simp [h]
    | bp b off blk o hb =>
      simp only [frz]
      have hlt : b < bx.length := by have := (List.getElem?_eq_some_iff.mp hb).1; rw [hM.len] at this; exact this
      rw [List.getElem?_eq_getElem hlt]
      have hl := (hM.lies hb (List.getElem?_eq_getElem hlt)).drop off
      let cv : Nat → Value := fun i => (w.cell? ⟨blk, o + off + i, none⟩).getD undef
      have hcv : ∀ (i : Nat) (x : AV), ((bx[b]'hlt).drop off)[i]? = some x → w.cell? ⟨blk, o + off + i, none⟩ = some (cv i) ∧ (cv i).oneCell' = true ∧ VR w (im G w β) β x (cv i) := by
        intro i x hx
        obtain ⟨y, g1, g2, g3⟩ := hl i x hx
        have : cv i = y := by simp [cv, g1]
        rw [this]; exact ⟨g1, g2, g3⟩
      refine .ip _ lent blk (o + off) cv (.inr (h2 _ _ _ hb)) ?_ ?_
      · intro i hi
        rw [List.length_map] at hi
        have := hcv i _ (List.getElem?_eq_getElem hi)
        exact ⟨this.1, this.2.1⟩
      · intro i x hx
        rw [List.getElem?_map, Option.map_eq_some_iff] at hx
        obtain ⟨x0, hx, rfl⟩ := hx
        refine ih (hcv i x0 hx).2.2 (fun g blk hg hi => ?_) (fun b blk o hb => ?_)
        · rcases hg with hg | hg
          · simp only [hg, Bool.true_and]; exact h1 g blk (.inl hg) hi
          · subst hg; simp only [Bool.and_false]; exact h1 false blk (.inr rfl) hi
        · simp only [Bool.and_self]; exact h2 b blk o hb
    | bsl b off m e blk o a cap hb hn he ha hc =>
      simp only [frz]
      have hlt : b < bx.length := by have := (List.getElem?_eq_some_iff.mp hb).1; rw [hM.len] at this; exact this
      rw [List.getElem?_eq_getElem hlt]
      have hl := ((hM.lies hb (List.getElem?_eq_getElem hlt)).drop off).take (m * e)
      let cv : Nat → Value := fun i => (w.cell? ⟨blk, o + off + i, none⟩).getD undef
      have hcv : ∀ (i : Nat) (x : AV), (((bx[b]'hlt).drop off).take (m * e))[i]? = some x → w.cell? ⟨blk, o + off + i, none⟩ = some (cv i) ∧ (cv i).oneCell' = true ∧ VR w (im G w β) β x (cv i) := by
        intro i x hx
        obtain ⟨y, g1, g2, g3⟩ := hl i x hx
        have : cv i = y := by simp [cv, g1]
        rw [this]; exact ⟨g1, g2, g3⟩
      refine .sl m _ lent (some a) cap blk (o + off) cv hn ?_ ?_ ?_
      · rcases ha with rfl | ⟨h0, _⟩
        · exact .inr ⟨rfl, h2 _ _ _ hb⟩
        · left
          have hm0 : m = 0 := by omega
          exact ⟨hm0, by simp [hm0]⟩
      · intro i hi
        rw [List.length_map] at hi
        have := hcv i _ (List.getElem?_eq_getElem hi)
        exact ⟨this.1, this.2.1⟩
      · intro i x hx
        rw [List.getElem?_map, Option.map_eq_some_iff] at hx
        obtain ⟨x0, hx, rfl⟩ := hx
        refine ih (hcv i x0 hx).2.2 (fun g blk hg hi => ?_) (fun b blk o hb => ?_)
        · rcases hg with hg | hg
          · simp only [hg, Bool.true_and]; exact h1 g blk (.inl hg) hi
          · subst hg; simp only [Bool.and_false]; exact h1 false blk (.inr rfl) hi
        · simp only [Bool.and_self]; exact h2 b blk o hb
    | bslU b off a hb =>
      simp only [frz]
      have hlt : b < bx.length := by have := (List.getElem?_eq_some_iff.mp hb).1; rw [hM.len] at this; exact this
      rw [List.getElem?_eq_getElem hlt]
      exact .sl 0 _ lent a 0 0 0 (fun _ => undef) (Nat.le_refl _) (.inl ⟨rfl, by simp⟩) (fun i hi => by simp at hi) (fun i x hx => by simp at hx)
    | fn f pre caps pv cv hp hc g1 g2 =>
      refine .fn f _ _ pv cv (by simpa using hp) (by simpa using hc) (fun i x y hx hy => ?_) fun i x y hx hy => ?_
      · rw [List.getElem?_map, Option.map_eq_some_iff] at hx
        obtain ⟨x0, hx, rfl⟩ := hx
        exact ih (g1 i x0 y hx hy) h1 h2
      · rw [List.getElem?_map, Option.map_eq_some_iff] at hx
        obtain ⟨x0, hx, rfl⟩ := hx
        exact ih (g2 i x0 y hx hy) h1 h2
    | mp b blk hb => exact .junk _
    | gs b e g x hb hx => exact .junk _
    | gp b o m e g x hb hx hm => exact .junk _
    | ns a => exact .ns a
    | junk x => exact .junk _

theorem VR.bare {w : World} {im : Bool → Nat → Prop} {β : Beta} {x : AV} {v : Value} (h : VR w im β x v) : ∀ {im2 : Bool → Nat → Prop} {β2 : Beta}, (∀ blk, im false blk → im2 false blk) → VR w im2 β2 x.bare v := by
  induction h with
  | v x => intros; simp only [AV.bare]; exact .v x
  | agg l c hs ho h ih =>
    intro im2 β2 hi
    simp only [AV.bare, AV.bareL_eq]
    refine .agg _ c (by simpa using hs) ho fun i x y h1 h2 => ?_
    rw [List.getElem?_map, Option.map_eq_some_iff] at h1
    obtain ⟨x0, h1, rfl⟩ := h1
    exact ih i x0 y h1 h2 hi
  | tup l c hs h ih =>
    intro im2 β2 hi
    simp only [AV.bare, AV.bareL_eq]
    refine .tup _ c (by simpa using hs) fun i x y h1 h2 => ?_
    rw [List.getElem?_map, Option.map_eq_some_iff] at h1
    obtain ⟨x0, h1, rfl⟩ := h1
    exact ih i x0 y h1 h2 hi
  | sl n l f a cap blk off cv hn ha hc h ih =>
    intro im2 β2 hi
    simp only [AV.bare]
    split
    · exact .junk _
    · rename_i hf
      have hf' : f = false := by simpa using hf
      subst hf'
      exact .sl n l false a cap blk off cv hn (ha.imp id fun h => ⟨h.1, hi _ h.2⟩) hc fun i x hx => (h i x hx).mono (fun g blk hg => ⟨hi _ hg, fun _ => rfl⟩) (fun b p _ h => by simp at h) (fun b blk o c E fz h => by simp at h)
  | ip l f blk off cv ha hc h ih =>
    intro im2 β2 hi
    simp only [AV.bare]
    split
    · exact .junk _
    · rename_i hf
      have hf' : f = false := by simpa using hf
      subst hf'
      exact .ip l false blk off cv (ha.imp id fun h => hi _ h) hc fun i x hx => (h i x hx).mono (fun g blk hg => ⟨hi _ hg, fun _ => rfl⟩) (fun b p _ h => by simp at h) (fun b blk o c E fz h => by simp at h)
  | bp b off blk o h => intros; simp only [AV.bare]; exact .junk _
  | bsl b off n e blk o a cap h hn he ha hc => intros; simp only [AV.bare]; exact .junk _
  | bslU b off a h => intros; simp only [AV.bare]; exact .junk _
  | fn f pre caps pv cv hp hc h1 h2 ih1 ih2 =>
    intro im2 β2 hi
    simp only [AV.bare, AV.bareL_eq]
    refine .fn f _ _ pv cv (by simpa using hp) (by simpa using hc) (fun i x y a b => ?_) fun i x y a b => ?_
    · rw [List.getElem?_map, Option.map_eq_some_iff] at a
      obtain ⟨x0, a, rfl⟩ := a
      exact ih1 i x0 y a b hi
    · rw [List.getElem?_map, Option.map_eq_some_iff] at a
      obtain ⟨x0, a, rfl⟩ := a
      exact ih2 i x0 y a b hi
  | mp b blk hb => intros; simp only [AV.bare]; exact .junk _
  | gs b e g x hb hx => intros; simp only [AV.bare]; exact .junk _
  | gp b o m e g x hb hx hm => intros; simp only [AV.bare]; exact .junk _
  | ns a => intros; simp only [AV.bare]; exact .ns a
  | junk x => intros; simp only [AV.bare]; exact .junk x

section
variable {P : Program} {G : Gh} {w : World} {β : Beta} {bx : Bx}

theorem MR.blt (hM : MR G w β bx) {b blk o : Nat} (hb : β[b]? = some (.at blk o)) : blk < w.heap.size := by
  have hlt : b < bx.length := by have := (List.getElem?_eq_some_iff.mp hb).1; rw [hM.len] at this; exact this
  obtain ⟨c1, E1, fz1, h1, _⟩ := hM.born b blk o _ hb (List.getElem?_eq_getElem hlt)
  exact (Array.getElem?_eq_some_iff.mp h1).1

theorem MR.imlt (hM : MR G w β bx) {f : Bool} {blk : Nat} (hi : im G w β f blk) : blk < w.heap.size := by
  rcases hi with h | h
  · have : G.le blk := by cases f <;> first | exact hM.frle _ h | exact h
    have := (hM.leold blk this).1; have := hM.sz; omega
  · exact h.2.1

/-- the view of a call that is handed nothing but values -/
def Gh.call (G : Gh) (w : World) (β : Beta) : Gh := ⟨w.heap.size, im G w β false, fun blk => blk < w.heap.size⟩

theorem MR.call (hM : MR G w β bx) : MR (G.call w β) w [] [] :=
  ⟨rfl, fun b b' blk o o' h => by simp at h, fun b blk o l h => by simp at h, fun b blk l h => by simp at h, fun b e g l h => by simp at h, fun blk h => hM.imlt h, fun blk h => ⟨h, by rintro ⟨b, o, h⟩; simp at h⟩, Nat.le_refl _⟩

theorem args_call (hM : MR G w β bx) {x : AV} {v : Value} (hx : VR w (im G w β) β x v) : VR w (im (G.call w β) w []) [] (frz bx true 6 x) v := by
  refine frz_ok hM true 6 hx (fun g blk _ hi => ?_) (fun b blk o hb => ?_)
  · cases g
    · exact .inl hi
    · exact .inl (hM.imlt hi)
  · exact .inl (hM.blt hb)

/-- behind such a call: the caller's memory is as it was -/
theorem MR.back (hM : MR G w β bx) {w' : World} {β' : Beta} {q : Nat → Bool} (h : Ext (G.call w β) q w [] w' β') : MR G w' β bx ∧ Ext G allq w β w' β := by
  have hold : ∀ k, k < w.heap.size → w'.heap[k]? = w.heap[k]? := fun k hk => h.old k hk (by rintro ⟨b, o, h⟩; simp at h)
  have hext : Ext G allq w β w' β := by
    refine ⟨h.sz, fun k hk _ => hold k (by have := hM.sz; omega), fun f k hi => ⟨?_, fun o => cell_heap (hold k (hM.imlt hi)) o⟩, .same fun _ _ _ h => h, fun b k o c E fz _ hb hc => ⟨c, fz, by rw [hold k (hM.blt hb), hc], rfl⟩, fun _ _ h => h, h.out⟩
    exact hi.imp id fun h2 => ⟨h2.1, by have := h.sz; omega, h2.2.2⟩
  refine ⟨⟨hM.len, hM.uniq, ?_, fun b k l hb hl => ?_, fun b e g l hb hl => hM.grsk hb hl fun k hk _ => hold k hk, hM.frle, hM.leold, by have := h.sz; have := hM.sz; omega⟩, hext⟩
  case refine_2 =>
    obtain ⟨es, cl, h1, h2⟩ := hM.maps b k l hb hl
    exact ⟨es, cl, by rw [hold k (hM.lies_lt hb rfl), h1], h2.imp fun _ _ h => hext.vr h⟩
  intro b k o l hb hl
  obtain ⟨c, E, fz, h1, h2, h3, h4, h5⟩ := hM.born b k o l hb hl
  exact ⟨c, E, fz, by rw [hold k (hM.blt hb), h1], h2, h3, h4, fun i x y hx hy => hext.vr (h5 i x y hx hy)⟩

theorem back_im (hM : MR G w β bx) {w' : World} {β' : Beta} {q : Nat → Bool} (h : Ext (G.call w β) q w [] w' β') {blk : Nat} (hi : im (G.call w β) w' β' false blk) : im G w' β false blk := by
  rcases hi with h1 | ⟨h1, h2, h3⟩
  · have h1 : im G w β false blk := h1
    exact h1.imp id fun h2 => ⟨h2.1, by have := h.sz; omega, h2.2.2⟩
  · have h1 : w.heap.size ≤ blk := h1
    exact .inr ⟨by have := hM.sz; omega, h2, fun ho => by obtain ⟨b, o, hb, hp⟩ := ho; have := hM.lies_lt hb hp; omega⟩

theorem back_own (hM : MR G w β bx) {w' : World} {β' : Beta} {bx' : Bx} {q : Nat → Bool} (h : Ext (G.call w β) q w [] w' β') (hM' : MR (G.call w β) w' β' bx') {b blk o : Nat} (hb : β'[b]? = some (.at blk o)) :
    im G w' β false blk ∧ w.heap.size ≤ blk := by
  have hge : w.heap.size ≤ blk := by
    rcases Nat.lt_or_ge blk w.heap.size with hlt | hge
    · obtain ⟨b', o', hb'⟩ := h.own' blk hlt (owned_at hb)
      simp at hb'
    · exact hge
  exact ⟨.inr ⟨by have := hM.sz; omega, hM'.blt hb, fun ho => by obtain ⟨b', o', hb', hp'⟩ := ho; have := hM.lies_lt hb' hp'; omega⟩, hge⟩

/-- boxes that are not kept -/
theorem MR.trunc (hM : MR G w β bx) (n : Nat) : MR G w (β.take n) ((bx.take n).map fun l => l.map (AV.keep fun b => decide (b < n))) ∧ Ext G (fun b => decide (b < n)) w β w (β.take n) := by
  have hget : ∀ (b : Nat) (p : Lie), (β.take n)[b]? = some p → b < n ∧ β[b]? = some p := by
    intro b p hb
    rw [List.getElem?_take] at hb
    split at hb
    · exact ⟨by assumption, hb⟩
    · simp at hb
  have hown : ∀ k, owned (β.take n) k → owned β k := by
    rintro k ⟨b, o, hb, hp⟩
    exact ⟨b, o, (hget b _ hb).2, hp⟩
  have hext : Ext G (fun b => decide (b < n)) w β w (β.take n) := by
    refine ⟨Nat.le_refl _, fun _ _ _ => rfl, fun f k hi => ⟨hi.imp id fun h => ⟨h.1, h.2.1, fun ho => h.2.2 (hown k ho)⟩, fun _ => rfl⟩, .same fun b p hq hb => ?_, fun b k o c E fz _ _ hc => ⟨c, fz, hc, rfl⟩, fun k _ ho => hown k ho, ⟨rfl, rfl, rfl⟩⟩
    rw [List.getElem?_take, if_pos (by simpa using hq)]; exact hb
  refine ⟨⟨by simp [hM.len], fun b b' k p p' hb hb' => hM.uniq b b' k p p' (hget b _ hb).2 (hget b' _ hb').2, ?_, fun b k l hb hl => ?_, fun b e g l hb hl => ?_, hM.frle, fun k hk => ⟨(hM.leold k hk).1, fun ho => (hM.leold k hk).2 (hown k ho)⟩, hM.sz⟩, hext⟩
  case refine_2 =>
    rw [List.getElem?_map, Option.map_eq_some_iff] at hl
    obtain ⟨l0, hl, rfl⟩ := hl
    rw [List.getElem?_take] at hl
    split at hl
    · obtain ⟨es, cl, h1, h2⟩ := hM.maps b k l0 (hget b _ hb).2 hl
      exact ⟨es, cl, h1, h2.map _ fun _ _ h => hext.vrk h⟩
    · simp at hl
  case refine_3 =>
    rw [List.getElem?_map, Option.map_eq_some_iff] at hl
    obtain ⟨l0, hl, rfl⟩ := hl
    rw [List.getElem?_take] at hl
    split at hl
    · exact (hM.grs b e g l0 (hget b _ hb).2 hl).keep _
    · simp at hl
  intro b k o l hb hl
  rw [List.getElem?_map, Option.map_eq_some_iff] at hl
  obtain ⟨l0, hl, rfl⟩ := hl
  rw [List.getElem?_take] at hl
  split at hl
  · obtain ⟨c, E, fz, h1, h2, h3, h4, h5⟩ := hM.born b k o l0 (hget b _ hb).2 hl
    refine ⟨c, E, fz, h1, by simpa using h2, h3, h4, fun i x y hx hy => ?_⟩
    rw [List.getElem?_map, Option.map_eq_some_iff] at hx
    obtain ⟨x0, hx, rfl⟩ := hx
    exact hext.vrk (h5 i x0 y hx hy)
  · simp at hl

/-- the view of a call that is handed the boxes -/
def Gh.obj (G : Gh) (w : World) (β : Beta) : Gh := ⟨w.heap.size, im G w β false, im G w β true⟩

theorem MR.objv (hM : MR G w β bx) {x : AV} {v : Value} (hx : VR w (im G w β) β x v) : VR w (im (G.obj w β) w β) β x v :=
  hx.mono (fun f k hi => ⟨by cases f <;> exact .inl hi, fun _ => rfl⟩) (fun b p _ h => ⟨p, h, .refl p⟩) (fun b k o c E fz _ h => ⟨c, E, fz, h, rfl⟩)

theorem MR.obj (hM : MR G w β bx) : MR (G.obj w β) w β bx := by
  refine ⟨hM.len, hM.uniq, ?_, fun b k l hb hl => ?_, fun b e g l hb hl => hM.grs b e g l hb hl, fun blk h => hM.imle true h, fun blk h => ⟨hM.imlt h, hM.not_im h⟩, Nat.le_refl _⟩
  case refine_2 =>
    obtain ⟨es, cl, h1, h2⟩ := hM.maps b k l hb hl
    exact ⟨es, cl, h1, h2.imp fun _ _ h => hM.objv h⟩
  intro b k o l hb hl
  obtain ⟨c, E, fz, h1, h2, h3, h4, h5⟩ := hM.born b k o l hb hl
  exact ⟨c, E, fz, h1, h2, h3, h4, fun i x y hx hy => hM.objv (h5 i x y hx hy)⟩

theorem obj_back (hM : MR G w β bx) {w' : World} {β' : Beta} {bx' : Bx} (h : Ext (G.obj w β) (fun b => decide (b < bx.length)) w β w' β') (hM' : MR (G.obj w β) w' β' bx') :
    Ext G allq w β w' β' ∧ MR G w' β' bx' ∧ ∀ {x : AV} {v : Value}, VR w' (im (G.obj w β) w' β') β' x v → VR w' (im G w' β') β' x v := by
  have hblt : ∀ (b : Nat) (p : Lie), β[b]? = some p → decide (b < bx.length) = true := by
    intro b p hb
    have := (List.getElem?_eq_some_iff.mp hb).1
    rw [hM.len] at this
    simpa using this
  have h1 : ∀ f blk, im G w β f blk → im G w' β' f blk := by
    intro f blk hi
    have hlt := hM.imlt hi
    have hno := hM.not_im hi
    exact hi.imp id fun h2 => ⟨h2.1, by have := h.sz; omega, fun ho => hno (h.own' blk hlt ho)⟩
  have h2 : ∀ f blk, im (G.obj w β) w' β' f blk → im G w' β' f blk := by
    intro f blk hi
    rcases hi with hi | ⟨g1, g2, g3⟩
    · exact h1 f blk (by cases f <;> exact hi)
    · have g1 : w.heap.size ≤ blk := g1
      exact .inr ⟨by have := hM.sz; omega, g2, g3⟩
  have hv : ∀ {x : AV} {v : Value}, VR w' (im (G.obj w β) w' β') β' x v → VR w' (im G w' β') β' x v := fun hx =>
    hx.mono (fun f k hi => ⟨h2 f k hi, fun _ => rfl⟩) (fun b p _ h => ⟨p, h, .refl p⟩) (fun b k o c E fz _ h => ⟨c, E, fz, h, rfl⟩)
  refine ⟨⟨h.sz, fun k hk ho => h.old k (by have := hM.sz; show k < w.heap.size; omega) ho, fun f k hi => ⟨h1 f k hi, (h.imk f k (by cases f <;> exact .inl hi)).2⟩, fun b p _ hb => h.bt b p (hblt b p hb) hb,
    fun b k o c E fz _ hb hc => h.shp b k o c E fz (hblt b _ hb) hb hc, fun k hk ho => h.own' k (by have := hM.sz; show k < w.heap.size; omega) ho, h.out⟩, ?_, hv⟩
  refine ⟨hM'.len, hM'.uniq, ?_, fun b k l hb hl => ?_, fun b e g l hb hl => hM'.grs b e g l hb hl, hM.frle, fun blk hk => ⟨(hM.leold blk hk).1, ?_⟩, by have := h.sz; have := hM.sz; omega⟩
  case refine_2 =>
    obtain ⟨es, cl, h1, h2⟩ := hM'.maps b k l hb hl
    exact ⟨es, cl, h1, h2.imp fun _ _ h => hv h⟩
  · intro b k o l hb hl
    obtain ⟨c, E, fz, g1, g2, g3, g4, g5⟩ := hM'.born b k o l hb hl
    exact ⟨c, E, fz, g1, g2, g3, g4, fun i x y hx hy => hv (g5 i x y hx hy)⟩
  · have hi : im G w β true blk := .inl hk
    exact fun ho => hM.not_im hi (h.own' blk (hM.imlt hi) ho)

/-- a slice that the callee made becomes a box of the caller's -/
theorem adopt (hM : MR G w β bx) {w' : World} {β' : Beta} {bx' : Bx} {q : Nat → Bool} (h : Ext (G.call w β) q w [] w' β') (hM' : MR (G.call w β) w' β' bx') {b off m e : Nat} {v : Value}
    (hv : VR w' (im (G.call w β) w' β') β' (.bsl b off m e) v) :
    ∃ loc, MR G w' (β ++ [loc]) (bx ++ [(((bx'[b]?).getD []).drop off |>.take (m * e)).map AV.bare]) ∧ Ext G allq w β w' (β ++ [loc]) ∧ VR w' (im G w' (β ++ [loc])) (β ++ [loc]) (.bsl bx.length 0 m e) v ∧
      ∀ {x : AV} {u : Value}, VR w' (im (G.call w β) w' β') β' x u → VR w' (im G w' (β ++ [loc])) (β ++ [loc]) x.bare u := by
  obtain ⟨m1, e1⟩ := hM.back h
  have hnew : ∀ loc : Lie, (β ++ [loc])[bx.length]? = some loc := by
    intro loc
    rw [List.getElem?_append_right (by rw [hM.len]; exact Nat.le_refl _)]; simp [hM.len]
  cases hv with
  | bslU _ _ a hb =>
    have hlt : b < bx'.length := by have := (List.getElem?_eq_some_iff.mp hb).1; rw [hM'.len] at this; exact this
    have hnil : ((((bx'[b]?).getD []).drop off).take (0 * 0)).map AV.bare = [] := by simp
    rw [hnil]
    obtain ⟨m2, e2⟩ := m1.newU [] (loc := .un) (fun k h => h)
    have hown : ∀ k, owned (β ++ [.un]) k → owned β k := by
      rintro k ⟨i, o, hk, hp⟩
      rw [List.getElem?_append] at hk
      split at hk
      · exact ⟨i, o, hk, hp⟩
      · obtain ⟨g1, g2⟩ := List.getElem?_eq_some_iff.mp hk
        simp at g2
        subst g2
        exact hp.elim
    refine ⟨.un, m2, e1.trans e2, .bslU _ _ a (hnew .un), fun hx => hx.bare fun blk hi => ?_⟩
    exact (back_im hM h hi).imp id fun g => ⟨g.1, g.2.1, fun ho => g.2.2 (hown _ ho)⟩
  | bsl _ _ _ _ blk o a cap hb hn he ha hc =>
    have hlt : b < bx'.length := by have := (List.getElem?_eq_some_iff.mp hb).1; rw [hM'.len] at this; exact this
    have hl := List.getElem?_eq_getElem hlt
    obtain ⟨_, hge⟩ := back_own hM h hM' hb
    obtain ⟨c, E, fz, b1, b2, b3, b4, b5⟩ := hM'.born b blk o _ hb hl
    obtain ⟨c0, E0, fz0, k1, k2⟩ := hc
    rw [b1] at k1
    simp only [Option.some.injEq, Obj.cells.injEq] at k1
    obtain ⟨rfl, rfl, rfl⟩ := k1
    have hget : ∀ (i : Nat) (p : Lie), (β ++ [.at blk (o + off)])[i]? = some p → β[i]? = some p ∨ (i = β.length ∧ p = .at blk (o + off)) := by
      intro i p hb
      rw [List.getElem?_append] at hb
      split at hb
      · exact .inl hb
      · obtain ⟨h1, h2⟩ := List.getElem?_eq_some_iff.mp hb
        simp at h1
        refine .inr ⟨by omega, ?_⟩
        have : i - β.length = 0 := by omega
        simp [this] at h2
        exact h2.symm
    have hown : ∀ k, owned (β ++ [.at blk (o + off)]) k → owned β k ∨ k = blk := by
      rintro k ⟨i, o', hk, hp⟩
      rcases hget i _ hk with h | ⟨_, h⟩
      · exact .inl ⟨i, o', h, hp⟩
      · subst h; exact .inr (Eq.symm hp)
    have hbare : ∀ {x : AV} {u : Value}, VR w' (im (G.call w β) w' β') β' x u → VR w' (im G w' (β ++ [.at blk (o + off)])) (β ++ [.at blk (o + off)]) x.bare u := by
      intro x u hx
      refine hx.bare fun k hi => ?_
      have hne : k ≠ blk := by
        intro ek
        subst ek
        rcases hi with g | g
        · have g : im G w β false k := g
          have := hM.imlt g; omega
        · exact g.2.2 (owned_at hb)
      exact (back_im hM h hi).imp id fun g => ⟨g.1, g.2.1, fun ho => (hown _ ho).elim g.2.2 hne⟩
    have hold : ∀ k, k < w.heap.size → w'.heap[k]? = w.heap[k]? := fun k hk => h.old k hk (by rintro ⟨b, o, h⟩; simp at h)
    have hext : Ext G allq w β w' (β ++ [.at blk (o + off)]) := by
      refine ⟨h.sz, fun k hk _ => hold k (by have := hM.sz; omega), fun f k hi => ⟨?_, (e1.imk f k hi).2⟩, .same fun i p _ hi => by rw [List.getElem?_append_left (List.getElem?_eq_some_iff.mp hi).1]; exact hi,
        fun i k o' c1 E1 fz1 _ hb hc1 => ⟨c1, fz1, by rw [hold k (hM.blt hb), hc1], rfl⟩, fun k hk ho => (hown k ho).resolve_right (fun ek => by have := hM.sz; omega), h.out⟩
      have hk := hM.imlt hi
      exact (e1.imk f k hi).1.imp id fun g => ⟨g.1, g.2.1, fun ho => (hown k ho).elim g.2.2 (fun ek => by omega)⟩
    refine ⟨.at blk (o + off), ?_, hext, .bsl _ 0 m e blk (o + off) a cap (hnew _) hn he (by simpa using ha) ⟨c, E, fz, b1, by simpa using k2⟩, hbare⟩
    · refine ⟨by simp [hM.len], ?_, ?_, fun i k l hi hl' => ?_, fun i e2 g l hi hl' => ?_, hM.frle, fun k hk => ⟨(hM.leold k hk).1, fun ho => (hown k ho).elim (hM.leold k hk).2 (fun ek => by have := (hM.leold k hk).1; have := hM.sz; omega)⟩, m1.sz⟩
      case refine_3 =>
        rcases hget i _ hi with g | ⟨g, g2⟩
        · have hlt : i < bx.length := by have := (List.getElem?_eq_some_iff.mp g).1; rw [hM.len] at this; exact this
          rw [List.getElem?_append_left hlt] at hl'
          obtain ⟨es, cl, h1, h2⟩ := hM.maps i k l g hl'
          exact ⟨es, cl, by rw [hold k (hM.lies_lt g rfl), h1], h2.imp fun _ _ h => hext.vr h⟩
        · simp at g2
      case refine_4 =>
        rcases hget i _ hi with g | ⟨g, g2⟩
        · have hlt : i < bx.length := by have := (List.getElem?_eq_some_iff.mp g).1; rw [hM.len] at this; exact this
          rw [List.getElem?_append_left hlt] at hl'
          exact hM.grsk g hl' fun k hk _ => hold k hk
        · simp at g2
      · intro i i' k p p' hi hi' hp hp'
        rcases hget i _ hi with g | ⟨g, g2⟩ <;> rcases hget i' _ hi' with g' | ⟨g', g2'⟩
        · exact hM.uniq i i' k p p' g g' hp hp'
        · subst g2'; have := hM.lies_lt g hp; have : blk = k := hp'; omega
        · subst g2; have := hM.lies_lt g' hp'; have : blk = k := hp; omega
        · omega
      · intro i k o1 l hi hl'
        rcases hget i _ hi with g | ⟨g, g2⟩
        · have hlt : i < bx.length := by have := (List.getElem?_eq_some_iff.mp g).1; rw [hM.len] at this; exact this
          rw [List.getElem?_append_left hlt] at hl'
          obtain ⟨c1, E1, fz1, g1, g2, g3, g4, g5⟩ := hM.born i k o1 l g hl'
          exact ⟨c1, E1, fz1, by rw [hold k (hM.blt g), g1], g2, g3, g4, fun j x y hx hy => hext.vr (g5 j x y hx hy)⟩
        · simp at g2
          obtain ⟨rfl, rfl⟩ := g2
          rw [List.getElem?_append_right (by rw [g, hM.len]; exact Nat.le_refl _)] at hl'
          have : i - bx.length = 0 := by rw [g, hM.len]; omega
          simp only [this, List.getElem?_cons_zero, Option.some.injEq] at hl'
          subst hl'
          have hle : ((((bx'[b]?).getD []).drop off).take (m * e)).length ≤ m * e := by simp; omega
          have hmc : m * e ≤ cap * e := Nat.mul_le_mul_right _ hn
          refine ⟨c, E, fz, b1, by rw [List.length_map]; omega, b3, b4, fun j x y hx hy => ?_⟩
          rw [List.getElem?_map, Option.map_eq_some_iff] at hx
          obtain ⟨x0, hx, rfl⟩ := hx
          rw [List.getElem?_take] at hx
          split at hx
          · rw [List.getElem?_drop, hl, Option.getD_some] at hx
            exact hbare (b5 _ _ _ hx (by rw [← Nat.add_assoc]; exact hy))
          · simp at hx

theorem back_ownL (hM : MR G w β bx) {w' : World} {β' : Beta} {bx' : Bx} {q : Nat → Bool} (h : Ext (G.call w β) q w [] w' β') (hM' : MR (G.call w β) w' β' bx') {b blk : Nat} {p : Lie} (hb : β'[b]? = some p) (hp : p.lies blk) :
    im G w' β false blk ∧ w.heap.size ≤ blk := by
  have hge : w.heap.size ≤ blk := by
    rcases Nat.lt_or_ge blk w.heap.size with hlt | hge
    · obtain ⟨b', o', hb'⟩ := h.own' blk hlt ⟨b, p, hb, hp⟩
      simp at hb'
    · exact hge
  exact ⟨.inr ⟨by have := hM.sz; omega, hM'.lies_lt hb hp, fun ho => by obtain ⟨b', o', hb', hp'⟩ := ho; have := hM.lies_lt hb' hp'; omega⟩, hge⟩

theorem MpR.bare {w : World} {im im2 : Bool → Nat → Prop} {β β2 : Beta} {l : List AV} {es : Array MapEntry} {cl : Nat} (h : MpR w im β l es cl) (hv : ∀ (x : AV) (y : Value), VR w im β x y → VR w im2 β2 x.bare y) : MpR w im2 β2 (l.map AV.bare) es cl := by
  obtain ⟨t, rfl, h⟩ := h
  refine ⟨t.map AV.bare, by rw [List.map_cons, stH_bare], by simpa using h.1, fun i x e h1 h2 => ?_⟩
  rw [List.getElem?_map, Option.map_eq_some_iff] at h1
  obtain ⟨x0, h1, rfl⟩ := h1
  obtain ⟨x', rfl, hx⟩ := h.2 i x0 e h1 h2
  exact ⟨x'.bare, by simp [AV.bare, AV.bareL], hv _ _ hx⟩

/-- a map that the callee made becomes a box of the caller's -/
theorem adoptM (hM : MR G w β bx) {w' : World} {β' : Beta} {bx' : Bx} {q : Nat → Bool} (h : Ext (G.call w β) q w [] w' β') (hM' : MR (G.call w β) w' β' bx') {b : Nat} {v : Value}
    (hv : VR w' (im (G.call w β) w' β') β' (.mp b) v) :
    ∃ loc, MR G w' (β ++ [loc]) (bx ++ [((bx'[b]?).getD []).map AV.bare]) ∧ Ext G allq w β w' (β ++ [loc]) ∧ VR w' (im G w' (β ++ [loc])) (β ++ [loc]) (.mp bx.length) v ∧
      ∀ {x : AV} {u : Value}, VR w' (im (G.call w β) w' β') β' x u → VR w' (im G w' (β ++ [loc])) (β ++ [loc]) x.bare u := by
  obtain ⟨m1, e1⟩ := hM.back h
  have hnew : ∀ loc : Lie, (β ++ [loc])[bx.length]? = some loc := by
    intro loc
    rw [List.getElem?_append_right (by rw [hM.len]; exact Nat.le_refl _)]; simp [hM.len]
  cases hv with
  | mp _ blk hb =>
    have hlt : b < bx'.length := by have := (List.getElem?_eq_some_iff.mp hb).1; rw [hM'.len] at this; exact this
    have hl := List.getElem?_eq_getElem hlt
    obtain ⟨_, hge⟩ := back_ownL hM h hM' hb rfl
    obtain ⟨es, cl, b1, b2⟩ := hM'.maps b blk _ hb hl
    have hget : ∀ (i : Nat) (p : Lie), (β ++ [.mpl blk])[i]? = some p → β[i]? = some p ∨ (i = β.length ∧ p = .mpl blk) := by
      intro i p hb
      rw [List.getElem?_append] at hb
      split at hb
      · exact .inl hb
      · obtain ⟨h1, h2⟩ := List.getElem?_eq_some_iff.mp hb
        simp at h1
        refine .inr ⟨by omega, ?_⟩
        have : i - β.length = 0 := by omega
        simp [this] at h2
        exact h2.symm
    have hown : ∀ k, owned (β ++ [.mpl blk]) k → owned β k ∨ k = blk := by
      rintro k ⟨i, o', hk, hp⟩
      rcases hget i _ hk with h | ⟨_, h⟩
      · exact .inl ⟨i, o', h, hp⟩
      · subst h; exact .inr (Eq.symm hp)
    have hbare : ∀ {x : AV} {u : Value}, VR w' (im (G.call w β) w' β') β' x u → VR w' (im G w' (β ++ [.mpl blk])) (β ++ [.mpl blk]) x.bare u := by
      intro x u hx
      refine hx.bare fun k hi => ?_
      have hne : k ≠ blk := by
        intro ek
        subst ek
        rcases hi with g | g
        · have g : im G w β false k := g
          have := hM.imlt g; omega
        · exact g.2.2 (owned_mp hb)
      exact (back_im hM h hi).imp id fun g => ⟨g.1, g.2.1, fun ho => (hown _ ho).elim g.2.2 hne⟩
    have hold : ∀ k, k < w.heap.size → w'.heap[k]? = w.heap[k]? := fun k hk => h.old k hk (by rintro ⟨b, o, h⟩; simp at h)
    have hext : Ext G allq w β w' (β ++ [.mpl blk]) := by
      refine ⟨h.sz, fun k hk _ => hold k (by have := hM.sz; omega), fun f k hi => ⟨?_, (e1.imk f k hi).2⟩, .same fun i p _ hi => by rw [List.getElem?_append_left (List.getElem?_eq_some_iff.mp hi).1]; exact hi,
        fun i k o' c1 E1 fz1 _ hb hc1 => ⟨c1, fz1, by rw [hold k (hM.blt hb), hc1], rfl⟩, fun k hk ho => (hown k ho).resolve_right (fun ek => by have := hM.sz; omega), h.out⟩
      have hk := hM.imlt hi
      exact (e1.imk f k hi).1.imp id fun g => ⟨g.1, g.2.1, fun ho => (hown k ho).elim g.2.2 (fun ek => by omega)⟩
    refine ⟨.mpl blk, ?_, hext, .mp _ blk (hnew _), hbare⟩
    refine ⟨by simp [hM.len], ?_, ?_, fun i k l hi hl' => ?_, fun i e2 g l hi hl' => ?_, hM.frle, fun k hk => ⟨(hM.leold k hk).1, fun ho => (hown k ho).elim (hM.leold k hk).2 (fun ek => by have := (hM.leold k hk).1; have := hM.sz; omega)⟩, m1.sz⟩
    case refine_3 =>
      rcases hget i _ hi with g | ⟨g, g2⟩
      · have hlt : i < bx.length := by have := (List.getElem?_eq_some_iff.mp g).1; rw [hM.len] at this; exact this
        rw [List.getElem?_append_left hlt] at hl'
        obtain ⟨es, cl, h1, h2⟩ := hM.maps i k l g hl'
        exact ⟨es, cl, by rw [hold k (hM.lies_lt g rfl), h1], h2.imp fun _ _ h => hext.vr h⟩
      · simp at g2
        subst g2
        rw [List.getElem?_append_right (by rw [g, hM.len]; exact Nat.le_refl _)] at hl'
        have : i - bx.length = 0 := by rw [g, hM.len]; omega
        simp only [this, List.getElem?_cons_zero, Option.some.injEq] at hl'
        subst hl'
        rw [hl, Option.getD_some]
        exact ⟨es, cl, b1, b2.bare fun _ _ h => hbare h⟩
    case refine_4 =>
      rcases hget i _ hi with g | ⟨g, g2⟩
      · have hlt : i < bx.length := by have := (List.getElem?_eq_some_iff.mp g).1; rw [hM.len] at this; exact this
        rw [List.getElem?_append_left hlt] at hl'
        exact hM.grsk g hl' fun k hk _ => hold k hk
      · simp at g2
    · intro i i' k p p' hi hi' hp hp'
      rcases hget i _ hi with g | ⟨g, g2⟩ <;> rcases hget i' _ hi' with g' | ⟨g', g2'⟩
      · exact hM.uniq i i' k p p' g g' hp hp'
      · subst g2'; have := hM.lies_lt g hp; have : blk = k := hp'; omega
      · subst g2; have := hM.lies_lt g' hp'; have : blk = k := hp; omega
      · omega
    · intro i k o1 l hi hl'
      rcases hget i _ hi with g | ⟨g, g2⟩
      · have hlt : i < bx.length := by have := (List.getElem?_eq_some_iff.mp g).1; rw [hM.len] at this; exact this
        rw [List.getElem?_append_left hlt] at hl'
        obtain ⟨c1, E1, fz1, g1, g2, g3, g4, g5⟩ := hM.born i k o1 l g hl'
        exact ⟨c1, E1, fz1, by rw [hold k (hM.blt g), g1], g2, g3, g4, fun j x y hx hy => hext.vr (g5 j x y hx hy)⟩
      · simp at g2

theorem expo_ok (hM : MR G w β bx) {w' : World} {β' : Beta} {bx' : Bx} {q : Nat → Bool} (h : Ext (G.call w β) q w [] w' β') (hM' : MR (G.call w β) w' β' bx') {r : AV} {v : Value}
    (hv : VR w' (im (G.call w β) w' β') β' r v) :
    ∃ β2, MR G w' β2 (bx ++ (expo bx' bx.length r).2) ∧ Ext G allq w β w' β2 ∧ VR w' (im G w' β2) β2 (expo bx' bx.length r).1 v := by
  have plain : (expo bx' bx.length r) = (r.bare, []) → ∃ β2, MR G w' β2 (bx ++ (expo bx' bx.length r).2) ∧ Ext G allq w β w' β2 ∧ VR w' (im G w' β2) β2 (expo bx' bx.length r).1 v := by
    intro e
    obtain ⟨m1, e1⟩ := hM.back h
    rw [e]
    exact ⟨β, by simpa using m1, e1, hv.bare fun blk hi => back_im hM h hi⟩
  unfold expo
  split
  · rename_i b off m e
    obtain ⟨loc, g1, g2, g3, _⟩ := adopt hM h hM' hv
    exact ⟨_, g1, g2, g3⟩
  · rename_i b off m e rest
    cases hv with
    | tup _ c hs hc =>
    have h0 : 0 < c.size := by rw [hs]; simp
    obtain ⟨loc, g1, g2, g3, g4⟩ := adopt hM h hM' (hc 0 (.bsl b off m e) c[0] (by simp) (by simp [h0]))
    refine ⟨_, g1, g2, .tup _ c (by simpa using hs) fun i x y hx hy => ?_⟩
    rcases i with _ | i
    · simp only [List.getElem?_cons_zero, Option.some.injEq] at hx
      subst hx
      have : c[0]? = some c[0] := by simp [h0]
      rw [this] at hy
      simp only [Option.some.injEq] at hy
      subst hy
      exact g3
    · rw [List.getElem?_cons_succ, List.getElem?_map, Option.map_eq_some_iff] at hx
      obtain ⟨x0, hx, rfl⟩ := hx
      exact g4 (hc (i + 1) x0 y (by simpa using hx) hy)
  · rename_i b rest
    cases hv with
    | tup _ c hs hc =>
    have h0 : 0 < c.size := by rw [hs]; simp
    obtain ⟨loc, g1, g2, g3, g4⟩ := adoptM hM h hM' (hc 0 (.mp b) c[0] (by simp) (by simp [h0]))
    refine ⟨_, g1, g2, .tup _ c (by simpa using hs) fun i x y hx hy => ?_⟩
    rcases i with _ | i
    · simp only [List.getElem?_cons_zero, Option.some.injEq] at hx
      subst hx
      have : c[0]? = some c[0] := by simp [h0]
      rw [this] at hy
      simp only [Option.some.injEq] at hy
      subst hy
      exact g3
    · rw [List.getElem?_cons_succ, List.getElem?_map, Option.map_eq_some_iff] at hx
      obtain ⟨x0, hx, rfl⟩ := hx
      exact g4 (hc (i + 1) x0 y (by simpa using hx) hy)
  · rename_i h1 h2 h3
    have e : expo bx' bx.length r = (r.bare, []) := by
      unfold expo
      split
      · exact absurd rfl (h1 _ _ _ _)
      · exact absurd rfl (h2 _ _ _ _ _)
      · exact absurd rfl (h3 _ _)
      · rfl
    simpa [e] using plain e

/-- What a call of a function means for the reader. -/
theorem callA_ok0 (hM : MR G w β bx) {E : FnA} (hE : ∀ f args bx r bx', E f args bx = some (r, bx') → Sound P f args bx r bx') {md : FuncId → Md} {f : FuncId} {args : List AV} {vs : Array Value} {r : AV} {bx' : Bx}
    (hne : md f ≠ .objR) (hnf : md f ≠ .fresh) (h : callA E md bx f args = some (r, bx')) (hs : vs.size = args.length) (ha : ∀ (i : Nat) (x : AV) (v : Value), args[i]? = some x → vs[i]? = some v → VR w (im G w β) β x v) :
    (∀ (vs : Array Value) (w : World), (callFunc f vs).run P w = .ok (.enter f vs) w) ∧ Calls P f vs w fun e w' => ∃ v β', e = .returned v ∧ Ext G allq w β w' β' ∧ MR G w' β' bx' ∧ VR w' (im G w' β') β' r v := by
  have hargs : ∀ (i : Nat) (x : AV) (v : Value), (args.map (frz bx true 6))[i]? = some x → vs[i]? = some v → VR w (im (G.call w β) w []) [] x v := by
    intro i x v hx hv
    rw [List.getElem?_map, Option.map_eq_some_iff] at hx
    obtain ⟨x0, hx, rfl⟩ := hx
    exact args_call hM (ha i x0 v hx hv)
  unfold callA at h
  split at h
  · simp only [Option.map_eq_some_iff, Prod.mk.injEq] at h
    obtain ⟨⟨r0, bx0⟩, h0, rfl, rfl⟩ := h
    refine ⟨(hE _ _ _ _ _ h0).1, ?_⟩
    refine ((hE _ _ _ _ _ h0).2 (G.call w β) w [] vs rfl hM.call (by simpa using hs) hargs).mono ?_
    rintro e w' ⟨v, β', rfl, g1, g2, g3⟩
    obtain ⟨m1, e1⟩ := hM.back g1
    refine ⟨v, β, rfl, e1, m1, frz_ok g2 false 6 g3 (fun g blk hg hi => ?_) (fun b blk o hb => (back_own hM g1 g2 hb).1)⟩
    have : g = false := by simpa using hg
    subst this
    exact back_im hM g1 hi
  · simp only [Option.map_eq_some_iff, Prod.mk.injEq] at h
    obtain ⟨⟨r0, bx0⟩, h0, rfl, rfl⟩ := h
    refine ⟨(hE _ _ _ _ _ h0).1, ?_⟩
    refine ((hE _ _ _ _ _ h0).2 (G.call w β) w [] vs rfl hM.call (by simpa using hs) hargs).mono ?_
    rintro e w' ⟨v, β', rfl, g1, g2, g3⟩
    obtain ⟨β2, k1, k2, k3⟩ := expo_ok hM g1 g2 g3
    exact ⟨v, β2, rfl, k2, k1, k3⟩
  · simp only [Option.bind_eq_some_iff] at h
    obtain ⟨⟨r0, bx0⟩, h0, h⟩ := h
    split at h <;> simp only [reduceCtorEq, Option.some.injEq, Prod.mk.injEq] at h
    obtain ⟨rfl, rfl⟩ := h
    refine ⟨(hE _ _ _ _ _ h0).1, ?_⟩
    refine ((hE _ _ _ _ _ h0).2 (G.obj w β) w β vs rfl hM.obj hs (fun i x v hx hv => hM.objv (ha i x v hx hv))).mono ?_
    rintro e w' ⟨v, β', rfl, g1, g2, g3⟩
    obtain ⟨k1, k2, k3⟩ := obj_back hM g1 g2
    obtain ⟨k4, k5⟩ := k2.trunc bx.length
    have k6 : Ext G (fun b => decide (b < bx.length)) w β w' (β'.take bx.length) := (k1.weaken (fun _ _ => rfl)).trans k5
    have hblt : ∀ (b : Nat) (p : Lie), β[b]? = some p → decide (b < bx.length) = true := by
      intro b p hb
      have := (List.getElem?_eq_some_iff.mp hb).1
      rw [hM.len] at this
      simpa using this
    refine ⟨v, _, rfl, ⟨k6.sz, k6.old, k6.imk, fun b p _ hb => k6.bt b p (hblt b p hb) hb, fun b k o c E fz _ hb hc => k6.shp b k o c E fz (hblt b _ hb) hb hc, k6.own', k6.out⟩, k4, k5.vrk (k3 g3)⟩
  · refine ⟨(hE _ _ _ _ _ h).1, ?_⟩
    refine ((hE _ _ _ _ _ h).2 (G.obj w β) w β vs rfl hM.obj hs (fun i x v hx hv => hM.objv (ha i x v hx hv))).mono ?_
    rintro e w' ⟨v, β', rfl, g1, g2, g3⟩
    obtain ⟨k1, k2, k3⟩ := obj_back hM g1 g2
    exact ⟨v, β', rfl, k1, k2, k3 g3⟩
  · rename_i e
    exact absurd e hne
  · rename_i e
    exact absurd e hnf

theorem eqV_eq {a b : Value} (h : eqV a b = true) : a = b := by
  unfold eqV at h
  split at h
  · simp only [Bool.and_eq_true, decide_eq_true_eq, beq_iff_eq] at h
    rw [h.1, h.2]
  · rw [beq_iff_eq] at h
    rw [h]
  · rfl
  · simp only [Bool.and_eq_true, beq_iff_eq] at h
    rw [h.1, h.2]
  · rename_i a b
    rw [beq_iff_eq, Array.toList_inj] at h
    obtain ⟨a⟩ := a
    obtain ⟨b⟩ := b
    simp only at h
    rw [h]
  · simp at h
theorem eqD_eq {a b : AV} (h : eqD a b = true) : a = b := by
  unfold eqD at h
  split at h
  · rw [eqV_eq h]
  · simp only [Bool.and_eq_true, beq_iff_eq] at h
    rw [h.1, h.2]
  · simp only [Bool.and_eq_true, beq_iff_eq] at h
    rw [h.1.1.1, h.1.1.2, h.1.2, h.2]
  · rw [beq_iff_eq.1 h]
  · simp only [Bool.and_eq_true, beq_iff_eq] at h
    rw [h.1.1, h.1.2, h.2]
  · rfl
  · rfl
  · simp at h
theorem eqDs_eq : ∀ {a b : List AV}, eqDs a b = true → a = b
  | [], [], _ => rfl
  | x :: l, y :: m, h => by
    simp only [eqDs, Bool.and_eq_true] at h
    rw [eqD_eq h.1, eqDs_eq h.2]
  | [], _ :: _, h => by simp [eqDs] at h
  | _ :: _, [], h => by simp [eqDs] at h
theorem eqC_eq {a b : AV} (h : eqC a b = true) : a = b := by
  unfold eqC at h
  split at h
  · simp only [Bool.and_eq_true, beq_iff_eq] at h
    rw [h.1.1, eqDs_eq h.1.2, eqDs_eq h.2]
  · rw [eqDs_eq h]
  · exact eqD_eq h
theorem eqCs_eq : ∀ {a b : List AV}, eqCs a b = true → a = b
  | [], [], _ => rfl
  | x :: l, y :: m, h => by
    simp only [eqCs, Bool.and_eq_true] at h
    rw [eqC_eq h.1, eqCs_eq h.2]
  | [], _ :: _, h => by simp [eqCs] at h
  | _ :: _, [], h => by simp [eqCs] at h
theorem eqBx_eq : ∀ {a b : Bx}, eqBx a b = true → a = b
  | [], [], _ => rfl
  | x :: l, y :: m, h => by
    simp only [eqBx, Bool.and_eq_true] at h
    rw [eqCs_eq h.1, eqBx_eq h.2]
  | [], _ :: _, h => by simp [eqBx] at h
  | _ :: _, [], h => by simp [eqBx] at h

/-- what stands for a value hangs on no box that is not there -/
theorem VR.closed {w : World} {im0 : Bool → Nat → Prop} {β : Beta} {x : AV} {y : Value} (h : VR w im0 β x y) : ∀ {n : Nat}, β.length ≤ n → x.keep (fun b => decide (b < n)) = x := by
  induction h with
  | v x => intros; rfl
  | agg l c hs ho h ih =>
    intro n hn
    simp only [AV.keep, AV.keepL_eq, AV.agg.injEq]
    refine List.ext_getElem? fun i => ?_
    rw [List.getElem?_map]
    rcases Nat.lt_or_ge i l.length with hi | hi
    · have h1 : l[i]? = some l[i] := List.getElem?_eq_getElem hi
      have h2 : c[i]? = some (c[i]'(by omega)) := Array.getElem?_eq_getElem (by omega)
      rw [h1, Option.map_some, ih i _ _ h1 h2 hn]
    · rw [List.getElem?_eq_none hi]; rfl
  | tup l c hs h ih =>
    intro n hn
    simp only [AV.keep, AV.keepL_eq, AV.tup.injEq]
    refine List.ext_getElem? fun i => ?_
    rw [List.getElem?_map]
    rcases Nat.lt_or_ge i l.length with hi | hi
    · have h1 : l[i]? = some l[i] := List.getElem?_eq_getElem hi
      have h2 : c[i]? = some (c[i]'(by omega)) := Array.getElem?_eq_getElem (by omega)
      rw [h1, Option.map_some, ih i _ _ h1 h2 hn]
    · rw [List.getElem?_eq_none hi]; rfl
  | sl n l f a cap blk off cv hn ha hc h ih => intros; rfl
  | ip l f blk off cv ha hc h ih => intros; rfl
  | bp b off blk o h =>
    intro n hn
    have := (List.getElem?_eq_some_iff.mp h).1
    simp only [AV.keep]
    rw [if_pos (by simp; omega)]
  | bsl b off m e blk o a cap h hn0 he ha hc =>
    intro n hn
    have := (List.getElem?_eq_some_iff.mp h).1
    simp only [AV.keep]
    rw [if_pos (by simp; omega)]
  | bslU b off a h =>
    intro n hn
    have := (List.getElem?_eq_some_iff.mp h).1
    simp only [AV.keep]
    rw [if_pos (by simp; omega)]
  | fn f pre caps pv cv hp hc h1 h2 ih1 ih2 =>
    intro n hn
    simp only [AV.keep, AV.keepL_eq, AV.fn.injEq, true_and]
    constructor
    · refine List.ext_getElem? fun i => ?_
      rw [List.getElem?_map]
      rcases Nat.lt_or_ge i pre.length with hi | hi
      · have g1 : pre[i]? = some pre[i] := List.getElem?_eq_getElem hi
        have g2 : pv[i]? = some (pv[i]'(by omega)) := Array.getElem?_eq_getElem (by omega)
        rw [g1, Option.map_some, ih1 i _ _ g1 g2 hn]
      · rw [List.getElem?_eq_none hi]; rfl
    · refine List.ext_getElem? fun i => ?_
      rw [List.getElem?_map]
      rcases Nat.lt_or_ge i caps.length with hi | hi
      · have g1 : caps[i]? = some caps[i] := List.getElem?_eq_getElem hi
        have g2 : cv[i]? = some (cv[i]'(by omega)) := Array.getElem?_eq_getElem (by omega)
        rw [g1, Option.map_some, ih2 i _ _ g1 g2 hn]
      · rw [List.getElem?_eq_none hi]; rfl
  | mp b blk h =>
    intro n hn
    have := (List.getElem?_eq_some_iff.mp h).1
    simp only [AV.keep]
    rw [if_pos (by simp; omega)]
  | gs b e g x h hx =>
    intro n hn
    have := (List.getElem?_eq_some_iff.mp h).1
    simp only [AV.keep]
    rw [if_pos (by simp; omega)]
  | gp b o m e g x h hx hm =>
    intro n hn
    have := (List.getElem?_eq_some_iff.mp h).1
    simp only [AV.keep]
    rw [if_pos (by simp; omega)]
  | ns a => intros; rfl
  | junk x => intros; rfl
theorem Lie.le.to_at {p : Lie} {k o : Nat} (h : p.le (.at k o)) : p = .at k o := by cases h; rfl
theorem Lie.le.to_mpl {p : Lie} {k : Nat} (h : p.le (.mpl k)) : p = .mpl k := by cases h; rfl

/-- the boxes that a call made are not looked at -/
theorem Sound.dropk {f : FuncId} {args : List AV} {bx t : Bx} {r : AV} (h : Sound P f args bx r (bx ++ t)) : Sound P f args bx (r.keep fun b => decide (b < bx.length)) bx := by
  refine ⟨h.1, fun G w β vs hz hM hs hv => (h.2 G w β vs hz hM hs hv).mono ?_⟩
  rintro e w' ⟨v, β', rfl, x, m, hvr⟩
  obtain ⟨m2, x2⟩ := m.trunc bx.length
  rw [List.take_left' rfl] at m2
  have hcl : ∀ {x : AV} {y : Value}, VR w (im G w β) β x y → x.keep (fun b => decide (b < bx.length)) = x := fun hx => hx.closed (by rw [hM.len]; exact Nat.le_refl _)
  have hb : ∀ (b : Nat) (p : Lie), (β'.take bx.length)[b]? = some p → ∃ p0, β[b]? = some p0 ∧ p0.le p := by
    intro b p hp
    rw [List.getElem?_take] at hp
    split at hp
    · rename_i hlt
      obtain ⟨p', h1, h2⟩ := x.bt b _ (by simpa using hlt) (List.getElem?_eq_getElem (by rw [hM.len]; exact hlt))
      rw [hp] at h1
      simp only [Option.some.injEq] at h1
      subst h1
      exact ⟨_, List.getElem?_eq_getElem (by rw [hM.len]; exact hlt), h2⟩
    · simp at hp
  refine ⟨v, β'.take bx.length, rfl, x.trans x2, ⟨by simpa using m2.len, m2.uniq, ?_, ?_, ?_, m2.frle, m2.leold, m2.sz⟩, x2.vrk hvr⟩
  · intro b k o l hp hl
    obtain ⟨p0, h1, h2⟩ := hb b _ hp
    have := h2.to_at
    subst this
    obtain ⟨c0, E0, fz0, g1, g2, _, _, g5⟩ := hM.born b k o l h1 hl
    obtain ⟨c, E, fz, k1, k2, k3, k4, k5⟩ := m2.born b k o (l.map (AV.keep fun b => decide (b < bx.length))) hp (by rw [List.getElem?_map, hl]; rfl)
    refine ⟨c, E, fz, k1, by simpa using k2, k3, k4, fun i x y hx hy => ?_⟩
    have hi : i < l.length := (List.getElem?_eq_some_iff.mp hx).1
    have := hcl (g5 i x _ hx (Array.getElem?_eq_getElem (by omega)))
    rw [← this]
    exact k5 i _ y (by rw [List.getElem?_map, hx]; rfl) hy
  · intro b k l hp hl
    obtain ⟨p0, h1, h2⟩ := hb b _ hp
    have := h2.to_mpl
    subst this
    obtain ⟨es0, cl0, _, t0, rfl, g2, g3⟩ := hM.maps b k l h1 hl
    obtain ⟨es, cl, k1, k2⟩ := m2.maps b k _ hp (by rw [List.getElem?_map, hl]; rfl)
    refine ⟨es, cl, k1, ?_⟩
    have hid : (stH cl0 (es0.toList.map (·.born)) :: t0).map (AV.keep fun b => decide (b < bx.length)) = stH cl0 (es0.toList.map (·.born)) :: t0 := by
      rw [List.map_cons, stH_keep]
      congr 1
      refine List.ext_getElem? fun i => ?_
      rw [List.getElem?_map]
      rcases Nat.lt_or_ge i t0.length with hi | hi
      · have q1 : t0[i]? = some t0[i] := List.getElem?_eq_getElem hi
        obtain ⟨x', q3, q4⟩ := g3 i _ _ q1 (List.getElem?_eq_getElem (by omega))
        rw [q1, Option.map_some, q3]
        simp only [AV.keep, AV.keepL]
        rw [hcl q4]
      · rw [List.getElem?_eq_none hi]; rfl
    have k3 : MpR _ _ _ ((stH cl0 (es0.toList.map (·.born)) :: t0).map (AV.keep fun b => decide (b < bx.length))) es cl := k2
    rw [hid] at k3
    exact k3
  · intro b e g l hp hl
    have hk : GrR w' e g (l.map (AV.keep fun b => decide (b < bx.length))) := m2.grs b e g _ hp (by rw [List.getElem?_map, hl]; rfl)
    obtain ⟨p0, h1, h2⟩ := hb b _ hp
    have hid : l.map (AV.keep fun b => decide (b < bx.length)) = l := by
      cases h2 with
      | refl => exact (hM.grs b e g l h1 hl).same _ (fun v => rfl)
      | gr _ g0 _ hh => exact (hM.grs b e g0 l h1 hl).same _ (fun v => rfl)
    rw [hid] at hk
    exact hk

theorem Sound.drop {f : FuncId} {args : List AV} {bx t : Bx} {r : AV} (h : Sound P f args bx r (bx ++ t)) (hr : r.keep (fun b => decide (b < bx.length)) = r) : Sound P f args bx r bx := by
  have := h.dropk
  rw [hr] at this
  exact this

open Classical in
theorem callA_ok (hM : MR G w β bx) {E : FnA} (hE : ∀ f args bx r bx', E f args bx = some (r, bx') → Sound P f args bx r bx') {md : FuncId → Md} {f : FuncId} {args : List AV} {vs : Array Value} {r : AV} {bx' : Bx}
    (h : callA E md bx f args = some (r, bx')) (hs : vs.size = args.length) (ha : ∀ (i : Nat) (x : AV) (v : Value), args[i]? = some x → vs[i]? = some v → VR w (im G w β) β x v) :
    (∀ (vs : Array Value) (w : World), (callFunc f vs).run P w = .ok (.enter f vs) w) ∧ Calls P f vs w fun e w' => ∃ v β', e = .returned v ∧ Ext G allq w β w' β' ∧ MR G w' β' bx' ∧ VR w' (im G w' β') β' r v := by
  by_cases hne : md f = .objR
  · have h' := h
    unfold callA at h'
    simp only [hne, Option.bind_eq_some_iff] at h'
    obtain ⟨⟨r0, b0⟩, h0, h'⟩ := h'
    dsimp only at h'
    by_cases hq : eqBx (b0.take bx.length) bx = true
    · rw [if_pos hq] at h'
      simp only [Option.some.injEq, Prod.mk.injEq] at h'
      obtain ⟨rfl, rfl⟩ := h'
      have hb0 : b0 = bx ++ b0.drop bx.length := by
        have h1 := List.take_append_drop bx.length b0
        rw [eqBx_eq hq] at h1
        exact h1.symm
      have hS := hE _ _ _ _ _ h0
      rw [hb0] at hS
      have hS' := hS.dropk
      refine callA_ok0 (E := fun f' a' b' => if f' = f ∧ a' = args ∧ b' = bx then some (r0.keep (fun b => decide (b < bx.length)), bx) else none) (md := fun _ => .objK) hM (fun f' a' b' r' bx' hh => ?_) (by simp) (by simp) ?_ hs ha
      · split at hh
        · rename_i hc
          obtain ⟨rfl, rfl, rfl⟩ := hc
          simp only [Option.some.injEq, Prod.mk.injEq] at hh
          obtain ⟨rfl, rfl⟩ := hh
          exact hS'
        · simp at hh
      · unfold callA
        simp
    refine callA_ok0 (md := fun _ => .objT) hM hE (by simp) (by simp) ?_ hs ha
    unfold callA at h ⊢
    simp only [hne, Option.bind_eq_some_iff] at h ⊢
    obtain ⟨⟨r1, b1⟩, h1, h⟩ := h
    rw [h0] at h1
    simp only [Option.some.injEq, Prod.mk.injEq] at h1
    obtain ⟨rfl, rfl⟩ := h1
    simp only at h
    rw [if_neg hq] at h
    split at h
    · rename_i hc
      simp only [Option.some.injEq, Prod.mk.injEq] at h
      obtain ⟨rfl, rfl⟩ := h
      refine ⟨(r0, b0), h0, ?_⟩
      simp only
      rw [if_pos hc.1, eqBx_eq hc.2]
    · simp at h
  · by_cases hnf : md f = .fresh
    · refine callA_ok0 (md := fun _ => .boxed) hM hE (by simp) (by simp) ?_ hs ha
      unfold callA at h ⊢
      simp only [hnf, Option.bind_eq_some_iff] at h
      obtain ⟨⟨r0, b0⟩, h0, h⟩ := h
      simp only at h
      split at h
      · rename_i b off m e
        simp only [Option.some.injEq, Prod.mk.injEq] at h
        obtain ⟨rfl, rfl⟩ := h
        simp only [h0, Option.map_some]
        rfl
      · simp at h
    · exact callA_ok0 hM hE hne hnf h hs ha
end
end Go.Sy
