/-
  Layer 09: what maps.bit and maps.of answer.
-/
import Derived.Test.YtapjcmloaeaefaaPfMap
namespace Go.Proofs.Ytapjcmloaeaefaa
open Go.Proofs

/-- memory has grown, and nothing else -/
structure Grow (w w' : World) : Prop where
  sz : w.heap.size ≤ w'.heap.size
  old : ∀ blk, blk < w.heap.size → w'.heap[blk]? = w.heap[blk]?
  out : w'.os = w.os ∧ w'.output = w.output ∧ w'.tape = w.tape
theorem Grow.trans {a b c : World} (h : Grow a b) (k : Grow b c) : Grow a c :=
  ⟨Nat.le_trans h.sz k.sz, fun blk hb => (k.old blk (Nat.lt_of_lt_of_le hb h.sz)).trans (h.old blk hb), ⟨k.out.1.trans h.out.1, k.out.2.1.trans h.out.2.1, k.out.2.2.trans h.out.2.2⟩⟩
theorem Grow.map (w : World) : Grow w (W3 w) := ⟨by rw [s3]; omega, fun blk hb => b3o w blk hb, ⟨rfl, rfl, rfl⟩⟩
theorem Grow.alloc (w : World) (o : Obj) : Grow w (w.alloc o) := ⟨by rw [World.size_alloc]; omega, fun blk hb => heap_alloc_old (h := hb) .., ⟨rfl, rfl, rfl⟩⟩

/-- a place's bit of the load; the number of an error -/
def bitOk (k i : Int) : Prop := (k = 0 ∧ 0 ≤ i ∧ i < 128) ∨ (k = 4 ∧ 0 ≤ i ∧ i < 24)
instance (k i : Int) : Decidable (bitOk k i) := by unfold bitOk; infer_instance
def bitK (k i : Int) : Int := if bitOk k i then (if k = 4 then 128 + i else i) else 0
def bitE (k i : Int) : Int := if bitOk k i then 0 else 2

theorem bit_no {k i : Int} (h : ¬ bitOk k i) : (Ending.returned (.tuple #[.int .i64 0, .int .i64 2]) : Ending) = .returned (.tuple #[.int .i64 (bitK k i), .int .i64 (bitE k i)]) := by
  unfold bitK bitE
  rw [if_neg h, if_neg h]
theorem bit_no1 {k i : Int} (hp : pIs k = true) (h : i < 0 ∨ RowKit.wrap64 (8 * pSz k) ≤ i) : ¬ bitOk k i := by
  unfold pIs at hp
  simp only [Bool.or_eq_true, beq_iff_eq] at hp
  unfold bitOk
  rcases hp with rfl | rfl
  · have : RowKit.wrap64 (8 * pSz 0) = 128 := by decide +kernel
    omega
  · have : RowKit.wrap64 (8 * pSz 4) = 24 := by decide +kernel
    omega
theorem bit_no2 {k i : Int} (hp : ¬ pIs k = true) : ¬ bitOk k i := by
  unfold pIs at hp
  simp only [Bool.or_eq_true, beq_iff_eq] at hp
  unfold bitOk
  omega
theorem bit_yes {k i : Int} (hp : pIs k = true) (h0 : 0 ≤ i) (h : i < RowKit.wrap64 (8 * pSz k)) : (Ending.returned (.tuple #[.int .i64 (RowKit.wrap64 (RowKit.wrap64 (8 * pAt k) + i)), .int .i64 0]) : Ending) = .returned (.tuple #[.int .i64 (bitK k i), .int .i64 (bitE k i)]) := by
  unfold pIs at hp
  simp only [Bool.or_eq_true, beq_iff_eq] at hp
  rcases hp with rfl | rfl
  · have h1 : RowKit.wrap64 (8 * pSz 0) = 128 := by decide +kernel
    have h2 : RowKit.wrap64 (8 * pAt 0) = 0 := by decide +kernel
    have hb : bitOk 0 i := by unfold bitOk; omega
    have h3 : RowKit.wrap64 (0 + i) = i := by unfold RowKit.wrap64; omega
    unfold bitK bitE
    rw [if_pos hb, if_pos hb, if_neg (by omega), h2, h3]
  · have h1 : RowKit.wrap64 (8 * pSz 4) = 24 := by decide +kernel
    have h2 : RowKit.wrap64 (8 * pAt 4) = 128 := by decide +kernel
    have hb : bitOk 4 i := by unfold bitOk; omega
    have h3 : RowKit.wrap64 (128 + i) = 128 + i := by unfold RowKit.wrap64; omega
    unfold bitK bitE
    rw [if_pos hb, if_pos hb, if_pos rfl, h2, h3]

set_option maxRecDepth 100000 in
set_option maxHeartbeats 4000000 in
theorem bit_walk (k i : Int) (w : World) : Calls Try.prog 29 #[.int .i64 k, .int .i64 i] w fun e w' => e = .returned (.tuple #[.int .i64 (bitK k i), .int .i64 (bitE k i)]) ∧ Grow w w' := by
  have hl := look w k true
  rw [if_pos rfl] at hl
  go_enter Try.func29, Try.ntmps29
  go_wp2_with (refine (parts_walk _).mono ?_; rintro _ _ ⟨rfl, rfl⟩)
  all_goals
    go_ret2
    refine ⟨?_, (Grow.map w).trans (Grow.alloc _ _)⟩
    first
      | exact bit_no (bit_no1 (by assumption) (by assumption))
      | exact bit_no (bit_no1 (by assumption) (.inl (by assumption)))
      | exact bit_no (bit_no2 (by assumption))
      | (rename_i h1 h2 h3; exact bit_yes h1 h2 h3.2)

theorem sl_at (b : Nat) (w : World) : (Instr.sliceAt 23 (.pointer (some ⟨b, 0, none⟩)) (some (.int .i64 0)) (some (.int .i64 16)) none).run Try.prog w = .ok (.slice (some ⟨b, 0, none⟩) 16 54) w ∧
    (Instr.sliceAt 23 (.pointer (some ⟨b, 0, none⟩)) (some (.int .i64 16)) (some (.int .i64 19)) none).run Try.prog w = .ok (.slice (some ⟨b, 16, none⟩) 3 38) w ∧
    (Instr.sliceAt 23 (.pointer (some ⟨b, 0, none⟩)) (some (.int .i64 0)) (some (.int .i64 0)) none).run Try.prog w = .ok (.slice (some ⟨b, 0, none⟩) 0 54) w := ⟨by kernel_rfl, by kernel_rfl, by kernel_rfl⟩
/-- a map's bytes: where, and how many -/
theorem of_walk (c : Array Value) (hc : c.size = 54) (hone : ∀ (i : Nat) (y : Value), c[i]? = some y → y.oneCell' = true) (k : Int) (w : World) : Calls Try.prog 28 #[.agg c, .int .i64 k] w fun e w' => e = .returned (.slice (some ⟨w.heap.size, (pAt k).toNat, none⟩) (pSz k).toNat (54 - (pAt k).toNat)) ∧ Grow (w.alloc (.cells c 23)) w' := by
  have hl := look (w.alloc (.cells c 23)) k false
  rw [if_neg (by simp), World.size_alloc] at hl
  have hs := sl_at w.heap.size
  by_cases h0 : k = 0
  · subst h0
    simp only [show pAt 0 = 0 from rfl, show pSz 0 = 16 from rfl] at hl ⊢
    have hs1 := fun w => (hs w).1
    clear hs
    go_enter Try.func28, Try.ntmps28
    go_wp2_with (refine (parts_walk _).mono ?_; rintro _ _ ⟨rfl, rfl⟩)
    go_ret
    exact ⟨rfl, (Grow.map _).trans (Grow.alloc _ _)⟩
  · by_cases h4 : k = 4
    · subst h4
      simp only [show pAt 4 = 16 from rfl, show pSz 4 = 3 from rfl] at hl ⊢
      have hs1 := fun w => (hs w).2.1
      clear hs h0
      go_enter Try.func28, Try.ntmps28
      go_wp2_with (refine (parts_walk _).mono ?_; rintro _ _ ⟨rfl, rfl⟩)
      go_ret
      exact ⟨rfl, (Grow.map _).trans (Grow.alloc _ _)⟩
    · have p1 : pAt k = 0 := if_neg h4
      have p2 : pSz k = 0 := by unfold pSz; rw [if_neg h0, if_neg h4]
      rw [p1, p2] at hl ⊢
      have hs1 := fun w => (hs w).2.2
      clear hs p1 p2
      go_enter Try.func28, Try.ntmps28
      go_wp2_with (refine (parts_walk _).mono ?_; rintro _ _ ⟨rfl, rfl⟩)
      go_ret
      exact ⟨rfl, (Grow.map _).trans (Grow.alloc _ _)⟩
end Go.Proofs.Ytapjcmloaeaefaa
