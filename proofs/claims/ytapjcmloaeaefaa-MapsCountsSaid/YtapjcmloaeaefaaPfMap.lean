/-
  Layer 09: what maps.bit and maps.of answer: they look into a map, which the reader does not read.
-/
import Derived.Test.YtapjcmloaeaefaaProg
import Derived.Tactics
import Derived.Tactics2
import Derived.StillTactics
import Derived.Laws.RangeAny
import Derived.Laws.Small
import Derived.Laws.Sem
import Derived.Laws.World
import Derived.Laws.Cells
import Derived.Laws.Slices
import Derived.Laws.Build
import Derived.Laws.Pointers
import Derived.Scope
import Derived.FnLit
import Derived.MapKept
import Derived.WideMake
import Derived.WalkKit
import Derived.Still
namespace Go.Proofs.Ytapjcmloaeaefaa
open Go.Proofs

def e1 : MapEntry := { key := .int .i64 0, val := .agg #[.int .i64 0, .int .i64 16], born := 0 }
def e2 : MapEntry := { key := .int .i64 4, val := .agg #[.int .i64 16, .int .i64 3], born := 1 }
/-- the worlds in which the map is made -/
def W1 (w : World) : World := w.alloc (.map #[] 0)
def W2 (w : World) : World := { W1 w with heap := (W1 w).heap.setIfInBounds w.heap.size (.map #[e1] 1) }
def W3 (w : World) : World := { W2 w with heap := (W2 w).heap.setIfInBounds w.heap.size (.map #[e1, e2] 2) }

theorem b1 (w : World) : (W1 w).heap[w.heap.size]? = some (.map #[] 0) := heap_alloc_new w _
theorem b2 (w : World) : (W2 w).heap[w.heap.size]? = some (.map #[e1] 1) := by
  show ((W1 w).heap.setIfInBounds w.heap.size (.map #[e1] 1))[w.heap.size]? = _
  exact Array.getElem?_setIfInBounds_self_of_lt (by have := (Array.getElem?_eq_some_iff.1 (b1 w)).1; exact this)
theorem b3 (w : World) : (W3 w).heap[w.heap.size]? = some (.map #[e1, e2] 2) := by
  show ((W2 w).heap.setIfInBounds w.heap.size (.map #[e1, e2] 2))[w.heap.size]? = _
  exact Array.getElem?_setIfInBounds_self_of_lt (by have := (Array.getElem?_eq_some_iff.1 (b2 w)).1; exact this)
theorem b3o (w : World) (blk : Nat) (h : blk < w.heap.size) : (W3 w).heap[blk]? = w.heap[blk]? := by
  show ((W2 w).heap.setIfInBounds w.heap.size (.map #[e1, e2] 2))[blk]? = _
  rw [Array.getElem?_setIfInBounds_ne (by omega)]
  show ((W1 w).heap.setIfInBounds w.heap.size (.map #[e1] 1))[blk]? = _
  rw [Array.getElem?_setIfInBounds_ne (by omega)]
  exact heap_alloc_old (h := h) ..
theorem s3 (w : World) : (W3 w).heap.size = w.heap.size + 1 := by
  show ((W2 w).heap.setIfInBounds w.heap.size (.map #[e1, e2] 2)).size = _
  rw [Array.size_setIfInBounds]
  show ((W1 w).heap.setIfInBounds w.heap.size (.map #[e1] 1)).size = _
  rw [Array.size_setIfInBounds]
  exact World.size_alloc ..
theorem hmm : Try.prog.underlying 62 = some (.map 3 65) := by kernel_rfl
theorem hkk : Try.prog.underlying 3 = some (.int .i64) := by kernel_rfl
theorem ins1 (w : World) : (Instr.mapUpdate 62 (.map (some w.heap.size)) (.int .i64 0) (.agg #[.int .i64 0, .int .i64 16])).run Try.prog (W1 w) = .ok () (W2 w) := by
  have hf : Instr.findNow (.int .i64) (.int .i64 0) ([] : List MapEntry) 0 = some none := rfl
  have hc : (Instr.checkKey false 10000 3 (.int .i64 0)).run Try.prog (W1 w) = .ok () (W1 w) := MapKept.run_checkKey (k := .int .i64 0) hkk (by simp [MapKept.IsKey]) false 9999
  simp [Instr.mapUpdate, run_underlying hmm, MapKept.run_getObj_map (b1 w), hc, MapKept.run_findKey hkk hf, MapKept.run_setObj_map _ (b1 w), Result.andThen, W2, e1]
theorem ins2 (w : World) : (Instr.mapUpdate 62 (.map (some w.heap.size)) (.int .i64 4) (.agg #[.int .i64 16, .int .i64 3])).run Try.prog (W2 w) = .ok () (W3 w) := by
  have hf : Instr.findNow (.int .i64) (.int .i64 4) [e1] 0 = some none := rfl
  have hc : (Instr.checkKey false 10000 3 (.int .i64 4)).run Try.prog (W2 w) = .ok () (W2 w) := MapKept.run_checkKey (k := .int .i64 4) hkk (by simp [MapKept.IsKey]) false 9999
  simp [Instr.mapUpdate, run_underlying hmm, MapKept.run_getObj_map (b2 w), hc, MapKept.run_findKey hkk hf, MapKept.run_setObj_map _ (b2 w), Result.andThen, W3, e2]

/-- what the map has: where, how long, and whether it is there -/
def pAt (k : Int) : Int := if k = 4 then 16 else 0
def pSz (k : Int) : Int := if k = 0 then 16 else if k = 4 then 3 else 0
def pIs (k : Int) : Bool := k == 0 || k == 4
theorem fnd (k : Int) : Instr.findNow (.int .i64) (.int .i64 k) [e1, e2] 0 = some (if k = 0 then some (0, e1.val) else if k = 4 then some (1, e2.val) else none) := by
  by_cases h0 : k = 0
  · subst h0; rfl
  · by_cases h4 : k = 4
    · subst h4; rfl
    · rw [if_neg h0, if_neg h4]
      have q0 : (k == 0) = false := by simpa using h0
      have q4 : (k == 4) = false := by simpa using h4
      simp [Instr.findNow, Instr.sameNow, e1, e2, q0, q4]
theorem zpart : ∀ w, (zeroValue 65).run Try.prog w = .ok (.agg #[.int .i64 0, .int .i64 0]) w := fun w => by kernel_rfl
theorem look (w : World) (k : Int) (ok : Bool) : (Instr.lookup 62 (.map (some w.heap.size)) (.int .i64 k) ok).run Try.prog (W3 w) = .ok (if ok then .tuple #[.agg #[.int .i64 (pAt k), .int .i64 (pSz k)], .bool (pIs k)] else .agg #[.int .i64 (pAt k), .int .i64 (pSz k)]) (W3 w) := by
  have hc : (Instr.checkKey false 10000 3 (.int .i64 k)).run Try.prog (W3 w) = .ok () (W3 w) := MapKept.run_checkKey (k := .int .i64 k) hkk (by simp [MapKept.IsKey]) false 9999
  have hfk := MapKept.run_findKey (w := W3 w) hkk (fnd k)
  unfold pAt pSz pIs
  by_cases h0 : k = 0
  · subst h0
    have hfk : (Instr.findKey 3 (.int .i64 0) [e1, e2]).run Try.prog (W3 w) = .ok (some (0, .agg #[.int .i64 0, .int .i64 16])) (W3 w) := hfk
    cases ok <;> simp [Instr.lookup, run_underlying hmm, MapKept.run_getObj_map (b3 w), hc, hfk, Result.andThen]
  · by_cases h4 : k = 4
    · subst h4
      have hfk : (Instr.findKey 3 (.int .i64 4) [e1, e2]).run Try.prog (W3 w) = .ok (some (1, .agg #[.int .i64 16, .int .i64 3])) (W3 w) := hfk
      cases ok <;> simp [Instr.lookup, run_underlying hmm, MapKept.run_getObj_map (b3 w), hc, hfk, Result.andThen]
    · rw [if_neg h0, if_neg h4] at hfk
      have q0 : (k == 0) = false := by simpa using h0
      have q4 : (k == 4) = false := by simpa using h4
      cases ok <;> simp [Instr.lookup, run_underlying hmm, MapKept.run_getObj_map (b3 w), hc, hfk, zpart, Result.andThen, h0, h4, q0, q4]
theorem parts_walk (w : World) : Calls Try.prog 41 #[] w fun e w' => e = .returned (.map (some w.heap.size)) ∧ w' = W3 w := by
  have hmk : (Instr.makeMap 62 none).run Try.prog w = .ok (.map (some w.heap.size)) (W1 w) := run_makeMap_plain w _
  have i1 := ins1 w
  have i2 := ins2 w
  go_enter Try.func41, Try.ntmps41
  go_wp2
  go_ret
  exact ⟨rfl, rfl⟩
end Go.Proofs.Ytapjcmloaeaefaa
