/-
  The law DiskVoid as the reader reads it.
-/
import Derived.Test.YtijmfjpcjceejaaFn
namespace Go.Sy
open Go.Proofs

theorem works_v : cf (evFn cx0 ext0 600) 6 [] = some (.v (.bool true)) := by kernel_rfl
theorem void_ev (i : Int) (b : List UInt8) (hb : b.length = 64) : cf (evFn cx0 ext0 1000) 4 [.v (.int .i64 i), .agg (u8l b)] = some (.v (.bool true)) := by
  have v0 : ∀ bx, callA (evFn cx0 ext0 999) md0 bx 6 [] = some (.v (.bool true), bx) := by intro bx; kernel_rfl
  have v1 : ∀ bx, callA (evFn cx0 ext0 999) md0 bx 12 [.v (.pointer none), .v (.slice none 0 0)] = some (.tup [], bx) := by intro bx; kernel_rfl
  have v2 : ∀ bx, callA (evFn cx0 ext0 999) md0 bx 11 [.v (.pointer none), .v (.int .i64 i)] = some (.tup [.agg (u8l (List.replicate 64 0)), .v (.int .i64 1)], bx) := by intro bx; kernel_rfl
  have v3 : ∀ bx L, callA (evFn cx0 ext0 999) md0 bx 8 [.v (.pointer none), .v (.int .i64 i), .agg L] = some (.v (.int .i64 1), bx) := by intro bx L; kernel_rfl
  have v4 : ∀ bx L, callA (evFn cx0 ext0 999) md0 bx 14 [.v (.pointer none), .v (.int .i64 i), .agg L] = some (.v (.int .i64 1), bx) := by intro bx L; kernel_rfl
  have v5 : ∀ bx, callA (evFn cx0 ext0 999) md0 bx 10 [.v (.pointer none)] = some (.v (.int .i64 1), bx) := by intro bx; kernel_rfl
  have v6 : ∀ bx, callA (evFn cx0 ext0 999) md0 bx 15 [.v (.pointer none), .v (.slice none 0 0)] = some (.v (.int .i64 1), bx) := by intro bx; kernel_rfl
  have v7 : ∀ bx, callA (evFn cx0 ext0 999) md0 bx 16 [.v (.pointer none)] = some (.v (.int .i64 0), bx) := by intro bx; kernel_rfl
  have v8 : ∀ bx, callA (evFn cx0 ext0 999) md0 bx 13 [.v (.pointer none), .v (.int .i64 i)] = some (.v (.int .i64 0), bx) := by intro bx; kernel_rfl
  have v9 : ∀ bx, callA (evFn cx0 ext0 999) md0 bx 17 [.v (.pointer none)] = some (.v (.int .i64 0), bx) := by intro bx; kernel_rfl
  have v10 : ∀ bx, callA (evFn cx0 ext0 999) md0 bx 18 [.v (.pointer none)] = some (.sl 0 [] false, bx) := by intro bx; kernel_rfl
  have x2 : lenA Try.prog 35 (.sl 0 [] false) = some (.v (.int .i64 0)) := by kernel_rfl
  unfold cf
  rw [E_l04_DiskVoid]
  refine ends_cf (P := Try.prog) ?_
  unfold F_l04_DiskVoid
  have hbx := box_agg [] (u8l b)
  have al : allocA Try.prog [u8l b] 32 = some (.bp 1 0, [u8l b, u8l (List.replicate 64 0)]) := by kernel_rfl
  have st : stA Try.prog 32 [u8l b, u8l (List.replicate 64 0)] (.bp 1 0) (.agg (u8l (List.replicate 64 0))) = some (.v undef, [u8l b, u8l (List.replicate 64 0)]) := by kernel_rfl
  have ld : loadA Try.prog 32 [u8l b, u8l (List.replicate 64 0)] (.bp 0 0) = some (.agg (u8l b)) := ld_a hB rfl hb
  have z0 : ((1 : Int) == 1) = true := rfl
  have z1 : ((0 : Int) == 0) = true := rfl
  have stq := (And.intro (hbx) (And.intro (v0) (And.intro (v1) (And.intro (v2) (And.intro (v3) (And.intro (v4) (And.intro (v5) (And.intro (v6) (And.intro (v7) (And.intro (v8) (And.intro (v9) (And.intro (v10) (And.intro (x2) (And.intro (al) (And.intro (st) (And.intro (ld) (And.intro (z0) (z1))))))))))))))))))
  repeat first
    | ((with_reducible apply ends_bind); case h => first | (simp only [stp, stq]; first | done | rfl) | rfl)
    | ((with_reducible apply ends_t); case h => first | rfl | (simp only [stp, stq]; done))
    | ((with_reducible apply ends_f); case h => first | rfl | (simp only [stp, stq]; done))
  exact ends_some ⟨.inl rfl, _, rfl, rfl⟩
end Go.Sy
