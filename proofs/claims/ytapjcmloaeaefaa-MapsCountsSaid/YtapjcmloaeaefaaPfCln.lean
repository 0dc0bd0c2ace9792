/-
  Layer 09: what maps.Clean answers: it ranges over a map, which the reader does not read.
-/
import Derived.Test.YtapjcmloaeaefaaPPc
import Derived.Test.YtapjcmloaeaefaaPPfMany
namespace Go.Sy.Pre
open Go.Proofs Num Go.Proofs.Ytapjcmloaeaefaa

/-! ## the map and its iterator -/
theorem next_at (w : World) (r bm : Nat) (seen : Array Nat) (ty : TypeId) (hr : w.heap[r]? = some (.mapIter (some bm) 2 seen 2)) (hb : w.heap[bm]? = some (.map #[e1, e2] 2)) :
    ((leftOf #[e1, e2] seen).size = 0 ∧ (Instr.next (.pointer (some ⟨r, 0, none⟩)) false ty).run Try.prog w = .ok (.tuple #[.bool false]) w) ∨
    ∃ e ∈ (leftOf #[e1, e2] seen).toList, ∃ w1 : World, w1.heap = w.heap ∧ w1.os = w.os ∧ w1.output = w.output ∧ w1.tape = w.tape ∧
      (Instr.next (.pointer (some ⟨r, 0, none⟩)) false ty).run Try.prog w = .ok (.tuple #[.bool true, e.key, e.val]) { w1 with heap := w1.heap.setIfInBounds r (.mapIter (some bm) 2 (seen.push e.born) 2) } := by
  have hold : ∀ x ∈ (#[e1, e2] : Array MapEntry).toList, x.born < 2 := by
    intro x hx
    simp at hx
    rcases hx with rfl | rfl <;> decide
  simp only [Instr.next, getObj, Sem.run_bind, Sem.run, hr, hb, Result.andThen, next_test_false seen #[e1, e2] 2 2 hold (Nat.le_refl _), Bool.false_eq_true, if_false]
  unfold leftOf
  have hmem : ∀ x ∈ (Array.filter (fun e => !seen.contains e.born) #[e1, e2]).toList, x.born < 2 := fun x hx => hold x (by simp only [Array.toList_filter, List.mem_filter] at hx; exact hx.1)
  generalize Array.filter (fun e => !seen.contains e.born) #[e1, e2] = L at hmem ⊢
  have e1' : L.filter (fun x => decide (x.born < 2)) = L := Array.filter_eq_self.2 (fun x hx => by simpa using hmem x (by simpa using hx))
  have e2' : L.filter (fun x => decide (x.born ≥ 2)) = #[] := by
    rw [Array.filter_eq_empty_iff]
    intro x hx
    have := hmem x (by simpa using hx)
    simp
    omega
  simp only [e1', e2', Array.append_empty]
  by_cases h0 : L.size = 0
  · left
    have : L = #[] := Array.eq_empty_of_size_eq_zero h0
    subst this
    refine ⟨rfl, ?_⟩
    simp [choose, Sem.run, Question.forced]
  · right
    have hne : L.isEmpty = false := by simp [Array.isEmpty, h0]
    simp only [hne, Bool.false_eq_true, if_false, Array.empty_append, Array.size_map]
    have hch : ∃ (j : Nat) (w1 : World), j < L.size ∧ (w1.heap = w.heap ∧ w1.os = w.os ∧ w1.output = w.output ∧ w1.tape = w.tape) ∧ (choose (Question.mapNext L.size)).run Try.prog w = .ok j w1 := by
      by_cases hf : L.size ≤ 1
      · exact ⟨0, w, by omega, ⟨rfl, rfl, rfl, rfl⟩, by simp [choose, Sem.run, Question.forced, hf]⟩
      · exact ⟨_, w.drew, Nat.mod_lt _ (by omega), ⟨rfl, rfl, rfl, rfl⟩, by
          simp only [choose, Sem.run, Question.forced, decide_eq_true_eq, hf, if_false, Question.cut]
          rfl⟩
    obtain ⟨j, w1, hj, hal, hrun⟩ := hch
    refine ⟨L[j], by simp, w1, hal.1, hal.2.1, hal.2.2.1, hal.2.2.2, ?_⟩
    have hset : ∀ (o' : Obj), (setObj r o').run Try.prog w1 = .ok () { w1 with heap := w1.heap.setIfInBounds r o' } := fun o' => by
      simp only [setObj, Sem.run]
      rw [hal.1, hr]
    simp only [hrun, Array.getElem?_map, Array.getElem?_eq_getElem hj, Option.map_some, Sem.run_bind, hset, Result.andThen]
    rfl
theorem entry_at (w : World) (r bm : Nat) (seen : Array Nat) (b : Nat) (e : MapEntry) (hr : w.heap[r]? = some (.mapIter (some bm) 2 (seen.push b) 2)) (hb : w.heap[bm]? = some (.map #[e1, e2] 2)) (he : (#[e1, e2] : Array MapEntry).find? (·.born == b) = some e) :
    (Instr.entry (.pointer (some ⟨r, 0, none⟩))).run Try.prog w = .ok (.tuple #[e.key, e.val]) w := by
  simp [Instr.entry, getObj, Sem.run, hr, hb, Result.andThen, he]
end Go.Sy.Pre
