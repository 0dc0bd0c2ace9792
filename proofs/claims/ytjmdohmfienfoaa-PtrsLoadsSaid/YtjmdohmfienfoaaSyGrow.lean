/-
  Hand-walked functions in the reader's words: memory that has grown, and nothing else.
-/
import Derived.Test.YtjmdohmfienfoaaSyCode
import Derived.Below
namespace Go.Sy
open Go.RowKit

/-- a world that has grown: the boxes are as they were -/
theorem MR.below {G : Gh} {w w' : World} {β : Beta} {bx : Bx} (hM : MR G w β bx) (g : Below w.heap.size w w') : MR G w' β bx ∧ Ext G allq w β w' β := by
  have hlt : ∀ blk, blk < w.heap.size → w'.heap[blk]? = w.heap[blk]? := g.block
  have him : ∀ f blk, im G w β f blk → blk < w.heap.size := by
    intro f blk hi
    rcases hi with h | h
    · have : G.le blk := by
        cases f
        · exact hM.frle blk h
        · exact h
      have := (hM.leold blk this).1
      have := hM.sz
      omega
    · exact h.2.1
  have e : Ext G allq w β w' β := by
    refine ⟨g.size, fun blk h _ => hlt blk (Nat.lt_of_lt_of_le h hM.sz), fun f blk hi => ⟨?_, fun p => cell_heap (hlt blk (him f blk hi)) p⟩, fun _ _ _ h => h, fun b blk p c E fz _ hb hc => ⟨c, fz, ?_, rfl⟩, fun _ _ h => h, ⟨g.os, g.output, g.tape⟩⟩
    · rcases hi with h | h
      · exact .inl h
      · exact .inr ⟨h.1, Nat.lt_of_lt_of_le h.2.1 g.size, h.2.2⟩
    · rw [hlt blk (Array.getElem?_eq_some_iff.mp hc).1]
      exact hc
  refine ⟨⟨hM.len, hM.inj, ?_, hM.frle, hM.leold, Nat.le_trans hM.sz g.size⟩, e⟩
  intro b blk p l hb hl
  obtain ⟨c, E, fz, h1, h2, h3, h4, h5⟩ := hM.born b blk p l hb hl
  exact ⟨c, E, fz, by rw [hlt blk (Array.getElem?_eq_some_iff.mp h1).1]; exact h1, h2, h3, h4, fun i x y hx hy => e.vr (h5 i x y hx hy)⟩
end Go.Sy
