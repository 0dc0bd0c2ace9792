/-
  A function that is walked by hand, piece by piece: pieces that the reader reads.
-/
import Derived.Test.YtijmfjpcjceejaaSyGrow
import Derived.Test.YtijmfjpcjceejaaSyFast
import Derived.Test.YtijmfjpcjceejaaSySimp
namespace Go.Sy

/-- the view of a call to whom all elder memory is strange -/
def Gc (z : Nat) : Gh := ⟨z, fun _ => False, fun _ => False⟩
theorem MR.nil (w : World) (z : Nat) (hz : z ≤ w.heap.size) : MR (Gc z) w [] [] :=
  ⟨rfl, fun b b' blk o o' h => by simp at h, fun b blk o l h => by simp at h, fun b blk l h => by simp at h, fun b e g l h => by simp at h, fun _ h => h.elim, fun _ h => h.elim, hz⟩
/-- boxes of plain values: whatever the view -/
theorem MR.regh {G G' : Gh} {w : World} {β : Beta} {bx : Bx} (h : MR G w β bx) (hnm : ∀ (b k : Nat), β[b]? ≠ some (Lie.mpl k)) (hv : ∀ (b : Nat) (l : List AV), bx[b]? = some l → ∀ x ∈ l, ∃ y, x = .v y) (hz : G'.z0 ≤ w.heap.size) (hf : ∀ blk, G'.fr blk → G'.le blk)
    (hl : ∀ blk, G'.le blk → blk < G'.z0 ∧ ¬ owned β blk) : MR G' w β bx := by
  refine ⟨h.len, h.uniq, ?_, fun b k l hb => (hnm b k hb).elim, fun b e g l hb hl => h.grs b e g l hb hl, hf, hl, hz⟩
  intro b blk o l hb hl
  obtain ⟨c, E, fz, h1, h2, h3, h4, h5⟩ := h.born b blk o l hb hl
  refine ⟨c, E, fz, h1, h2, h3, h4, fun i x y hx hy => ?_⟩
  obtain ⟨z, rfl⟩ := hv b l hl x (List.mem_of_getElem? hx)
  have := h5 i _ y hx hy
  cases this
  exact .v _
/-- one elder block has turned, that no box owns -/
theorem MR.turn {z : Nat} {w w' : World} {β : Beta} {bx : Bx} (h : MR (Gc z) w β bx) {r : Nat} (hr : r < z) (ho : ¬ owned β r) (hs : w'.heap.size = w.heap.size) (hh : ∀ k, k ≠ r → w'.heap[k]? = w.heap[k]?) :
    MR (Gc z) w' β bx ∧ ∀ {x : AV} {y : Value}, VR w (im (Gc z) w β) β x y → VR w' (im (Gc z) w' β) β x y := by
  have hv : ∀ {x : AV} {y : Value}, VR w (im (Gc z) w β) β x y → VR w' (im (Gc z) w' β) β x y := by
    intro x y hx
    refine hx.mono (fun f blk hi => ?_) (fun b p _ hb => ⟨p, hb, .refl p⟩) (fun b blk o c E fz hb hc => ⟨c, E, fz, ?_, rfl⟩)
    · rcases hi with hi | ⟨h1, h2, h3⟩
      · cases f <;> exact hi.elim
      · have h1 : z ≤ blk := h1
        exact ⟨.inr ⟨h1, by omega, h3⟩, fun o => cell_heap (hh blk (by omega)) o⟩
    · rw [hh blk (fun e => ho (owned_at (e ▸ hb)))]
      exact hc
  refine ⟨⟨h.len, h.uniq, ?_, fun b k l hb hl => ?_, fun b e g l hb hl => h.grsk hb hl fun k _ hk => hh k (fun e => ho ⟨b, _, hb, e ▸ hk⟩), h.frle, h.leold, by have := h.sz; omega⟩, hv⟩
  case refine_2 =>
    obtain ⟨es, cl, h1, h2⟩ := h.maps b k l hb hl
    exact ⟨es, cl, by rw [hh k (fun e => ho (owned_mp (e ▸ hb))), h1], h2.imp fun _ _ h => hv h⟩
  intro b blk o l hb hl
  obtain ⟨c, E, fz, h1, h2, h3, h4, h5⟩ := h.born b blk o l hb hl
  exact ⟨c, E, fz, by rw [hh blk (fun e => ho (owned_at (e ▸ hb)))]; exact h1, h2, h3, h4, fun i x y hx hy => hv (h5 i x y hx hy)⟩
theorem get_pick (env : Env) (l : List Nat) (t : Nat) : get (l.map fun t => (t, get env t)) t = get env t ∨ get (l.map fun t => (t, get env t)) t = .junk := by
  induction l with
  | nil => exact .inr rfl
  | cons x l ih =>
    simp only [List.map_cons, get]
    by_cases h : x = t
    · rw [if_pos h, h]
      exact .inl rfl
    · rw [if_neg h]
      exact ih
theorem ER.pick {ds : List Deferred} {G : Gh} {w : World} {β : Beta} {N : Nat} {env : Env} {a : Act} (h : ER ds G w β N env a) (l : List Nat) : ER ds G w β N (l.map fun t => (t, get env t)) a := by
  refine ⟨h.sz, h.df, fun t => ?_⟩
  rcases get_pick env l t with e | e
  · rw [e]; exact h.vr t
  · rw [e]; exact .junk _
theorem ER.begin {G : Gh} {w : World} {β : Beta} {N : Nat} (args : List AV) (vs : Array Value) (hs : vs.size = args.length) (hn : args.length ≤ N) (hv : ∀ (i : Nat) (x : AV) (v : Value), args[i]? = some x → vs[i]? = some v → VR w (im G w β) β x v) :
    ER [] G w β N (args.zipIdx.map fun p => (p.2, p.1)) { tmps := vs ++ Array.replicate (N - vs.size) undef, defers := [] } := by
  refine ⟨by simp; omega, rfl, fun t => ?_⟩
  have hget : ∀ (l : List AV) (k t : Nat), get ((l.zipIdx k).map fun p => (p.2, p.1)) t = if k ≤ t then (l[t - k]?).getD .junk else .junk := by
    intro l
    induction l with
    | nil => intro k t; simp [get]
    | cons x l ih =>
      intro k t
      simp only [List.zipIdx_cons, List.map_cons, get, ih]
      split
      · rename_i e; subst e; simp
      · rename_i e
        by_cases h1 : k ≤ t
        · have : t - k = (t - (k + 1)) + 1 := by omega
          rw [if_pos (by omega), if_pos h1, this, List.getElem?_cons_succ]
        · rw [if_neg (by omega), if_neg h1]
  rw [hget args 0 t, if_pos (Nat.zero_le _), Nat.sub_zero]
  cases ha : args[t]? with
  | none => exact .junk _
  | some x =>
    have ht : t < vs.size := by have := (List.getElem?_eq_some_iff.mp ha).1; omega
    rw [Array.getD_eq_getD_getElem?, Array.getElem?_append_left ht]
    simp only [Option.getD_some]
    rw [Array.getElem?_eq_getElem ht]
    exact hv t x _ ha (Array.getElem?_eq_getElem ht)
section
variable {P : Program}
/-- a piece that the reader reads -/
theorem wp_piece {md : FuncId → Md} {E : FnA} {N n n0 : Nat} {G : Gh} {c : Code} {s : S} {w : World} {β : Beta} {a : Act} {ds : List Deferred} {Q : Exit → Act → World → Prop} {r : Option (Ex × S)}
    (hE : ∀ f args bx r bx', E f args bx = some (r, bx') → Sound P f args bx r bx') (hd : drawsOk P md c = true) (hn : n0 ≤ s.bx.length) (R : Ex → S → Prop)
    (he : evK P md E N none n n0 c s (fun s => some (.normal, s)) (fun i s => some (.exit i, s)) = r) (h : Ends r R) (hM : MR G w β s.bx) (hR : ER ds G w β N s.env a)
    (hQ : ∀ ex s', R ex s' → ∀ a' w' β', Ext G (fun b => decide (b < n0)) w β w' β' → MR G w' β' s'.bx → ER ds G w' β' N s'.env a' → Q ex.to a' w') : c.wp P Q a w := by
  obtain ⟨e, s', h1, h2⟩ := h
  rw [← he, ← evK_eq, exitA_some] at h1
  exact evCode_wp hE c hd hn h1 hM hR (hQ e s' h2)
/-- one operation, by hand: a value -/
theorem list_value {o : Oper} {rest : List Oper} {ops : Array Oper} {a : Act} {Q : Exit → Act → World → Prop} {w w' : World} {s : Sem Value} {v : Value} (hg : o.guard = none)
    (he : execOp a.eval o = (do pure (.value (← s)) : Sem Next)) (hr : s.run P w = .ok v w') (hK : wpList P ops Q rest (a.put o.dst v) w') : wpList P ops Q (o :: rest) a w := by
  refine wpList_plain hg fun K hK' => ?_
  exact wp_value he hr (hK' _ _ hK)
/-- one operation, by hand: a call of a function -/
theorem list_call {o : Oper} {rest : List Oper} {ops : Array Oper} {a : Act} {Q : Exit → Act → World → Prop} {w : World} {f : FuncId} {args : Array Value} {R : Ending → World → Prop} (hg : o.guard = none)
    (he : (execOp a.eval o).run P w = .ok (.enter f args) w) (hr : Calls P f args w R) (hK : ∀ e w', R e w' → ∃ v, e = .returned v ∧ wpList P ops Q rest (a.put o.dst v) w') : wpList P ops Q (o :: rest) a w := by
  refine wpList_plain hg fun K hK' => ?_
  unfold Oper.wp
  rw [he, Oper.upon_enter]
  refine hr.mono fun e w' h => ?_
  obtain ⟨v, rfl, hk⟩ := hK e w' h
  exact hK' _ _ hk
/-- operations that the reader reads, one behind the other -/
theorem list_ops {E : FnA} (hE : ∀ f args bx r bx', E f args bx = some (r, bx') → Sound P f args bx r bx') {md : FuncId → Md} {N n0 : Nat} {ops : Array Oper} {Q : Exit → Act → World → Prop} {G : Gh} {ds : List Deferred}
    (l : List Oper) {w : World} {β : Beta} {bx : Bx} {env env' : Env} {bx' : Bx} {a : Act} (h : evOps P md E N n0 (fun _ => true) ops l env bx = some (env', bx')) (hM : MR G w β bx) (hR : ER ds G w β N env a)
    (hQ : ∀ a' w' β', Ext G (fun b => decide (b < n0)) w β w' β' → MR G w' β' bx' → ER ds G w' β' N env' a' → Q .normal a' w') : wpList P ops Q l a w := evOps_wp hE l h hM hR hQ
end
end Go.Sy
namespace Go.Sy
def plainA : AV → Bool
  | .bp _ _ => true
  | .v _ => true
  | .junk => true
  | _ => false
theorem get_all {env : Env} (h : env.all (fun p => plainA p.2) = true) (t : Nat) : plainA (get env t) = true := by
  induction env with
  | nil => rfl
  | cons x l ih =>
    obtain ⟨k, y⟩ := x
    rw [List.all_cons, Bool.and_eq_true] at h
    simp only [get]
    split
    · exact h.1
    · exact ih h.2
theorem ER.regh {ds : List Deferred} {G G' : Gh} {w : World} {β : Beta} {N : Nat} {env : Env} {a : Act} (h : ER ds G w β N env a) (hp : env.all (fun p => plainA p.2) = true) : ER ds G' w β N env a := by
  refine ⟨h.sz, h.df, fun t => ?_⟩
  have h1 := h.vr t
  have h2 := get_all hp t
  revert h1 h2
  generalize get env t = x
  generalize a.tmps.getD t undef = y
  intro h1 h2
  cases h1 with
  | v _ => exact .v _
  | bp b off blk o hb => exact .bp b off blk o hb
  | junk _ => exact .junk _
  | _ => cases h2
end Go.Sy
