/-
  Hand-walked functions in the reader's words: memory that has grown, and nothing else.
-/
import Derived.Test.YtijmfjpcjceejaaSyCode
import Derived.Below
import Derived.Test.YtijmfjpcjceejaaSyStep
namespace Go.Sy
open Go.RowKit

/-- a world that has grown: the boxes are as they were -/
theorem MR.below {G : Gh} {w w' : World} {β : Beta} {bx : Bx} (hM : MR G w β bx) (g : Below w.heap.size w w') : MR G w' β bx ∧ Ext G allq w β w' β := by
  have hlt : ∀ blk, blk < w.heap.size → w'.heap[blk]? = w.heap[blk]? := g.block
  have him : ∀ f blk, im G w β f blk → blk < w.heap.size := by
    intro f blk hi
    rcases hi with h | h
    · have : G.le blk := by
        cases f
        · exact hM.frle blk h
        · exact h
      have := (hM.leold blk this).1
      have := hM.sz
      omega
    · exact h.2.1
  have e : Ext G allq w β w' β := by
    refine ⟨g.size, fun blk h _ => hlt blk (Nat.lt_of_lt_of_le h hM.sz), fun f blk hi => ⟨?_, fun p => cell_heap (hlt blk (him f blk hi)) p⟩, .same fun _ _ _ h => h, fun b blk p c E fz _ hb hc => ⟨c, fz, ?_, rfl⟩, fun _ _ h => h, ⟨g.os, g.output, g.tape⟩⟩
    · rcases hi with h | h
      · exact .inl h
      · exact .inr ⟨h.1, Nat.lt_of_lt_of_le h.2.1 g.size, h.2.2⟩
    · rw [hlt blk (Array.getElem?_eq_some_iff.mp hc).1]
      exact hc
  refine ⟨⟨hM.len, hM.uniq, ?_, fun b k l hb hl => ?_, fun b e g l hb hl => hM.grsk hb hl fun k hk _ => hlt k hk, hM.frle, hM.leold, Nat.le_trans hM.sz g.size⟩, e⟩
  case refine_2 =>
    obtain ⟨es, cl, h1, h2⟩ := hM.maps b k l hb hl
    exact ⟨es, cl, by rw [hlt k (Array.getElem?_eq_some_iff.mp h1).1]; exact h1, h2.imp fun _ _ h => e.vr h⟩
  intro b blk p l hb hl
  obtain ⟨c, E, fz, h1, h2, h3, h4, h5⟩ := hM.born b blk p l hb hl
  exact ⟨c, E, fz, by rw [hlt blk (Array.getElem?_eq_some_iff.mp h1).1]; exact h1, h2, h3, h4, fun i x y hx hy => e.vr (h5 i x y hx hy)⟩
/-- cells that are bytes -/
def byA8 : List AV → Option (List UInt8)
  | [] => some []
  | .v (.int .u8 n) :: r => if n = ((UInt8.ofNat n.toNat).toNat : Int) then (byA8 r).map fun l => UInt8.ofNat n.toNat :: l else none
  | _ => none
theorem byA8_u8l (b : List UInt8) : byA8 (u8l b) = some b := by
  induction b with
  | nil => rfl
  | cons x b ih =>
    show (if ((x.toNat : Int)) = ((UInt8.ofNat ((x.toNat : Int)).toNat).toNat : Int) then (byA8 (u8l b)).map (fun l => UInt8.ofNat ((x.toNat : Int)).toNat :: l) else none) = some (x :: b)
    rw [ih, Int.toNat_natCast, UInt8.ofNat_toNat, if_pos rfl]
    rfl
theorem byA8_inv : ∀ {l : List AV} {p : List UInt8}, byA8 l = some p → l = u8l p
  | [], p, h => by
    simp only [byA8, Option.some.injEq] at h
    subst h
    rfl
  | x :: l, p, h => by
    unfold byA8 at h
    split at h
    · rename_i e
      cases e
    · rename_i n r e
      simp only [List.cons.injEq] at e
      obtain ⟨rfl, rfl⟩ := e
      split at h
      · rename_i hn
        rw [Option.map_eq_some_iff] at h
        obtain ⟨q, h1, rfl⟩ := h
        rw [byA8_inv h1]
        show _ = AV.v (.int .u8 ((UInt8.ofNat n.toNat).toNat : Int)) :: u8l q
        rw [← hn]
      · cases h
    · cases h
end Go.Sy
