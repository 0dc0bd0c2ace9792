/-
  Layer 09: maps.bit and maps.of as the reader takes them.
-/
import Derived.Test.YtapjcmloaeaefaaPfMapB
import Derived.Test.YtapjcmloaeaefaaSyCode
import Derived.KernelRfl
namespace Go.Sy
open Go.Proofs Go.Proofs.Ytapjcmloaeaefaa

/-- a world that has grown: the boxes are as they were -/
theorem MR.grow {G : Gh} {w w' : World} {β : Beta} {bx : Bx} (hM : MR G w β bx) (g : Grow w w') : MR G w' β bx ∧ Ext G allq w β w' β := by
  have hlt : ∀ blk, blk < w.heap.size → w'.heap[blk]? = w.heap[blk]? := g.old
  have him : ∀ f blk, im G w β f blk → blk < w.heap.size := by
    intro f blk hi
    rcases hi with h | h
    · have : G.le blk := by
        cases f
        · exact hM.frle blk h
        · exact h
      have := (hM.leold blk this).1
      have := hM.sz
      omega
    · exact h.2.1
  have e : Ext G allq w β w' β := by
    refine ⟨g.sz, fun blk h _ => hlt blk (Nat.lt_of_lt_of_le h hM.sz), fun f blk hi => ⟨?_, fun p => cell_heap (hlt blk (him f blk hi)) p⟩, fun _ _ _ h => h, fun b blk p c E fz _ hb hc => ⟨c, fz, ?_, rfl⟩, fun _ _ h => h, g.out⟩
    · rcases hi with h | h
      · exact .inl h
      · exact .inr ⟨h.1, Nat.lt_of_lt_of_le h.2.1 g.sz, h.2.2⟩
    · rw [hlt blk (Array.getElem?_eq_some_iff.mp hc).1]
      exact hc
  refine ⟨⟨hM.len, hM.inj, ?_, hM.frle, hM.leold, Nat.le_trans hM.sz g.sz⟩, e⟩
  intro b blk p l hb hl
  obtain ⟨c, E, fz, h1, h2, h3, h4, h5⟩ := hM.born b blk p l hb hl
  exact ⟨c, E, fz, by rw [hlt blk (Array.getElem?_eq_some_iff.mp h1).1]; exact h1, h2, h3, h4, fun i x y hx hy => e.vr (h5 i x y hx hy)⟩

def extC : FnA := fun f args bx =>
  if f = 29 then (match args with
    | [.v (.int .i64 k), .v (.int .i64 i)] => some (.tup [.v (.int .i64 (bitK k i)), .v (.int .i64 (bitE k i))], bx)
    | _ => none)
  else if f = 28 then (match args with
    | [.agg l, .v (.int .i64 k)] => if l.length = 54 then some (.bsl bx.length (pAt k).toNat (pSz k).toNat 1, bx ++ [l]) else none
    | _ => none) else none

theorem part_le (k : Int) : (pSz k).toNat ≤ 54 - (pAt k).toNat ∧ (pAt k).toNat ≤ 54 := by
  unfold pSz pAt
  split
  · subst_vars; decide
  · split <;> decide

theorem extC_ok (f : FuncId) (args : List AV) (bx : Bx) (r : AV) (bx' : Bx) (h : extC f args bx = some (r, bx')) : Sound Try.prog f args bx r bx' := by
  unfold extC at h
  split at h
  · rename_i hf
    subst hf
    split at h
    · rename_i k i
      simp only [Option.some.injEq, Prod.mk.injEq] at h
      obtain ⟨rfl, rfl⟩ := h
      refine ⟨fun vs w => ?_, fun G w β vs hz hM hs hv => ?_⟩
      · unfold callFunc
        simp only [Sem.run_bind, run_program, Result.andThen_ok, Try.func29]
        rw [if_neg (by decide +kernel), if_neg (by decide +kernel)]
        simp
      · obtain ⟨a⟩ := vs
        rcases a with _ | ⟨v, _ | ⟨v', _ | ⟨v2, a⟩⟩⟩
        · simp at hs
        · simp at hs
        · have h0 := hv 0 _ _ rfl rfl
          have h1 := hv 1 _ _ rfl rfl
          cases h0
          cases h1
          refine (bit_walk k i w).mono fun e w' ⟨h1, h2⟩ => ?_
          obtain ⟨m1, e1⟩ := hM.grow h2
          refine ⟨_, β, h1, e1.weaken fun _ _ => rfl, m1, .tup _ _ rfl fun i x y hx hy => ?_⟩
          rcases i with _ | _ | i
          · simp at hx hy; subst hx; subst hy; exact .v _
          · simp at hx hy; subst hx; subst hy; exact .v _
          · simp at hx
        · simp at hs
    · simp at h
  · split at h
    · rename_i hf
      subst hf
      split at h
      · rename_i l k
        split at h
        · rename_i hl
          simp only [Option.some.injEq, Prod.mk.injEq] at h
          obtain ⟨rfl, rfl⟩ := h
          refine ⟨fun vs w => ?_, fun G w β vs hz hM hs hv => ?_⟩
          · unfold callFunc
            simp only [Sem.run_bind, run_program, Result.andThen_ok, Try.func28]
            rw [if_neg (by decide +kernel), if_neg (by decide +kernel)]
            simp
          · obtain ⟨a⟩ := vs
            rcases a with _ | ⟨v, _ | ⟨v', _ | ⟨v2, a⟩⟩⟩
            · simp at hs
            · simp at hs
            · have h0 := hv 0 _ _ rfl rfl
              have h1 := hv 1 _ _ rfl rfl
              cases h1
              cases h0 with
              | agg _ c hcs ho hc =>
              refine (of_walk c (hcs.trans hl) ho k w).mono fun e w' ⟨h1, h2⟩ => ?_
              have mn := hM.new (xs := l) (c := c) hcs 23 #[] (by simpa using ho) hc
              simp only [Array.append_empty] at mn
              obtain ⟨m0, e0⟩ := mn
              obtain ⟨m1, e1⟩ := m0.grow h2
              have hp := part_le k
              refine ⟨_, _, h1, (e0.trans e1).weaken fun _ _ => rfl, m1, ?_⟩
              have hnew : (w.alloc (.cells c 23)).heap[w.heap.size]? = some (.cells c 23) := heap_alloc_new w _
              refine .bsl _ _ _ 1 w.heap.size 0 _ _ ?_ hp.1 (by omega) (.inl (by rw [Nat.zero_add])) ⟨c, 23, (0, 0), ?_, by omega⟩
              · rw [← hM.len, List.getElem?_append_right (Nat.le_refl _), Nat.sub_self]; rfl
              · rw [h2.old _ (Array.getElem?_eq_some_iff.mp hnew).1]; exact hnew
            · simp at hs
        · simp at h
      · simp at h
    · simp at h
end Go.Sy
