/-
  Layer 12: dirent.Check as the reader takes it.
-/
import Derived.Test.YtmegbgmgpogfoaaPfChk
import Derived.Test.YtmegbgmgpogfoaaSyCode
import Derived.KernelRfl
namespace Go.Sy
open Go.Proofs Go.Proofs.Ytmegbgmgpogfoaa

/-- a new block that no box is -/
theorem MR.skip {G : Gh} {w : World} {β : Beta} {bx : Bx} (hM : MR G w β bx) (o : Obj) : MR G (w.alloc o) β bx ∧ Ext G allq w β (w.alloc o) β := by
  have hlt : ∀ blk, blk < w.heap.size → (w.alloc o).heap[blk]? = w.heap[blk]? := fun blk h => heap_alloc_old (h := h) ..
  have hsz : (w.alloc o).heap.size = w.heap.size + 1 := by unfold World.alloc; simp
  have him : ∀ f blk, im G w β f blk → blk < w.heap.size := by
    intro f blk hi
    rcases hi with h | h
    · have : G.le blk := by
        cases f
        · exact hM.frle blk h
        · exact h
      have := (hM.leold blk this).1
      have := hM.sz
      omega
    · exact h.2.1
  have e : Ext G allq w β (w.alloc o) β := by
    refine ⟨by omega, fun blk h _ => hlt blk (Nat.lt_of_lt_of_le h hM.sz), fun f blk hi => ⟨?_, fun p => cell_heap (hlt blk (him f blk hi)) p⟩, fun _ _ _ h => h, fun b blk p c E fz _ hb hc => ⟨c, fz, ?_, rfl⟩, fun _ _ h => h, ⟨rfl, rfl⟩⟩
    · rcases hi with h | h
      · exact .inl h
      · exact .inr ⟨h.1, by omega, h.2.2⟩
    · rw [hlt blk (Array.getElem?_eq_some_iff.mp hc).1]
      exact hc
  refine ⟨⟨hM.len, hM.inj, ?_, hM.frle, hM.leold, by have := hM.sz; omega⟩, e⟩
  intro b blk p l hb hl
  obtain ⟨c, E, fz, h1, h2, h3, h4, h5⟩ := hM.born b blk p l hb hl
  exact ⟨c, E, fz, by rw [hlt blk (Array.getElem?_eq_some_iff.mp h1).1]; exact h1, h2, h3, h4, fun i x y hx hy => e.vr (h5 i x y hx hy)⟩

def extC : FnA := fun f args bx =>
  if f = 11 then (match args with
    | [.v (.string s)] => some (.v (.int .i64 (chk s.data.toList)), bx)
    | _ => none) else none

theorem extC_ok (f : FuncId) (args : List AV) (bx : Bx) (r : AV) (bx' : Bx) (h : extC f args bx = some (r, bx')) : Sound Try.prog f args bx r bx' := by
  unfold extC at h
  split at h
  · rename_i hf
    subst hf
    split at h
    · rename_i s
      simp only [Option.some.injEq, Prod.mk.injEq] at h
      obtain ⟨rfl, rfl⟩ := h
      refine ⟨fun vs w => ?_, fun G w β vs hz hM hs hv => ?_⟩
      · unfold callFunc
        simp only [Sem.run_bind, run_program, Result.andThen_ok, Try.func11]
        rw [if_neg (by decide +kernel), if_neg (by decide +kernel)]
        simp
      · obtain ⟨a⟩ := vs
        rcases a with _ | ⟨v, _ | ⟨v', a⟩⟩
        · simp at hs
        · have h0 := hv 0 _ _ rfl rfl
          cases h0
          refine (check_walk s w).mono fun e w' ⟨h1, h2⟩ => ?_
          rcases h2 with rfl | ⟨pos, rfl⟩
          · exact ⟨_, β, h1, .refl _ _ _ _, hM, .v _⟩
          · obtain ⟨m1, e1⟩ := hM.skip (.stringIter s pos)
            exact ⟨_, β, h1, e1.weaken fun _ _ => rfl, m1, .v _⟩
        · simp at hs
    · simp at h
  · simp at h
end Go.Sy
