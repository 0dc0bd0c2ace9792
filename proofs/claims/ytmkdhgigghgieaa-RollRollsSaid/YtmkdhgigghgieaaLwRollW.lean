/-
  Layer 15's example works.
-/
import Derived.Test.YtmkdhgigghgieaaPfRoll2
namespace Go.Sy
open Go.Proofs Num Crc Seal
def pw (k : Nat) (x : AV) : List AV := [.v (.int .i64 0), .v (.int .i64 0), .v (.int .i64 3), x, .v (.int .i64 k), .v (.slice none 0 0), .v (.int .i64 0), .v (.int .i64 0), .v (.bool false)]
def c0 : List UInt8 := (zero 64).set 3 7
theorem w_bz : buildA Try.prog 23 [] = some (.agg (u8l (zero 64))) := by kernel_rfl
theorem w_bs (bx : Bx) : buildSliceA Try.prog bx 31 1 [(0, .v (.int .u8 7))] = some (.bsl bx.length 0 1 1, bx ++ [[.v (.int .u8 7)]]) := by kernel_rfl
theorem w_p0 (j : Nat) : buildA Try.prog 34 [(2, .v (.int .i64 3)), (3, .bsl j 0 1 1)] = some (.agg (pw 0 (.bsl j 0 1 1))) := by kernel_rfl
theorem w_p4 (j : Nat) : buildA Try.prog 34 [(2, .v (.int .i64 3)), (3, .bsl j 0 1 1), (4, .v (.int .i64 4))] = some (.agg (pw 4 (.bsl j 0 1 1))) := by kernel_rfl
theorem w_bs4 (bx : Bx) (j : Nat) : buildSliceA Try.prog bx 24 1 [(0, .agg (pw 4 (.bsl j 0 1 1)))] = some (.bsl bx.length 0 1 9, bx ++ [pw 4 (.bsl j 0 1 1)]) := by kernel_rfl
theorem w_f0 : frz [[.v (.int .u8 7)]] true 6 (.agg (pw 0 (.bsl 0 0 1 1))) = .agg (pc 3 0 [7]) := rfl
theorem w_f4 (A B : List AV) : frz [A, B, [.v (.int .u8 7)], pw 4 (.bsl 2 0 1 1)] true 6 (.bsl 3 0 1 9) = .sl 1 (pc 3 4 [7]) true := rfl
theorem w_raw (m : Nat) : cf (evFn cx0 ext0 (m + 70)) 25 [.agg (u8l (zero 64)), .agg (pc 3 0 [7]), .v (.int .u32 1)] = some (.tup [.agg (u8l c0), .v (.int .i64 0)]) := by kernel_rfl
theorem nxt_zero : nxtT (zero 64) = 1 := by
  have h : right (zero 64) = false := by
    unfold right
    rw [show kd (zero 64) = 0 from rfl]
    rfl
  unfold nxtT
  rw [h]
  rfl
theorem works_at (n : Nat) (h : 700 ≤ n) : cf (evFn cx0 ext0 n) 7 [] = some (.v (.bool true)) := by
  obtain ⟨m, rfl⟩ : ∃ m, n = m + 71 := ⟨n - 71, by omega⟩
  obtain ⟨q, t', e', hg, hq⟩ := gotV_form 4 (zero 64) rfl
  have hk : mayK ((4 : Nat) : Int) := by unfold mayK; omega
  have hl : (lq 3 q [7]).length = 54 := lq_len 3 q [7] hq (by simp)
  have c1 := w_raw m
  have c2 := Now_ev (n := m + 70) (by omega) 3 4 hk (zero 64) rfl [7] (by simp) hg hq
  rw [nxt_zero] at c2
  obtain ⟨q1, q2, q3, q4⟩ := blk_parts 4 1 (lq 3 q [7]) hl hk (by omega)
  have hbl := blk_len 4 1 (lq 3 q [7]) hl
  have hgb : gotV ((4 : Nat) : Int) (blk 4 1 (lq 3 q [7])) = .tup [.agg (u8l (lq 3 q [7])), .v (.int .u32 (1 : Nat)), .v (.int .i64 0)] := by
    unfold gotV
    rw [if_pos hk, if_pos ⟨by rw [q2], q4⟩, q1, q3]
  have c3 : cf (evFn cx0 ext0 (m + 70)) 15 [.agg (u8l (blk 4 1 (lq 3 q [7]))), .v (.int .i64 4)] = _ := Load_ev (n := m + 70) (by omega) ((4 : Nat) : Int) (blk 4 1 (lq 3 q [7])) hbl hgb hl
  have c4 := Turn_ev (n := m + 70) (by omega) (blk 4 1 (lq 3 q [7])) hbl
  have ht : nxtT (blk 4 1 (lq 3 q [7])) = 2 := by
    unfold nxtT
    rw [q4, q3]
    rfl
  rw [ht] at c4
  have h3 : (lq 3 q [7])[3]? = some 7 := by
    unfold lq
    have h1 : (q.take 3).length = 3 := by rw [List.length_take]; omega
    rw [List.append_assoc, List.getElem?_append_right (by omega), h1]
    rfl
  have i3 : indexA Try.prog 38 (.agg (u8l (lq 3 q [7]))) (.v (.int .i64 3)) = some (.v (.int .u8 7)) := by
    have h : indexA Try.prog 38 (.agg (u8l (lq 3 q [7]))) (.v (.int .i64 3)) = (u8l (lq 3 q [7]))[3]? := by kernel_rfl
    rw [h, u8l_get, h3]
    rfl
  generalize lq 3 q [7] = d at *
  generalize blk 4 1 d = B at *
  have lB := lds hB
  have lL := lds hL
  have sB := sts hB
  have sL := sts hL
  have aB := al_a hB
  have aL := al_a hL
  have zl6 : (zero 64).length = 64 := rfl
  have cl : c0.length = 64 := rfl
  have t7 : (((UInt8.toNat 7 : Nat) : Int) == 7) = true := rfl
  have z7 : ((7 : Int) == 7) = true := rfl
  have z2 : (((2 : Nat) : Int) == 2) = true := rfl
  have z0 : ((0 : Int) == 0) = true := rfl
  have it : ∀ (h : Decidable True) (a b : Bool), @ite Bool True h a b = a := fun h a b => if_pos trivial
  unfold cf
  rw [E_l15_works]
  refine ends_cf (P := Try.prog) ?_
  unfold F_l15_works
  have stq := (And.intro (w_bz) (And.intro (w_bs) (And.intro (w_p0) (And.intro (w_p4) (And.intro (w_bs4) (And.intro (w_f0) (And.intro (w_f4) (And.intro (frz_agg) (And.intro (c1) (And.intro (c2) (And.intro (c3) (And.intro (c4) (And.intro (aB) (And.intro (lB) (And.intro (sB) (And.intro (zl6) (And.intro (cl) (And.intro (hbl) (And.intro (i3) (And.intro (t7) (And.intro (z7) (And.intro (z2) (And.intro (z0) (it))))))))))))))))))))))))
  repeat first
    | ((with_reducible apply ends_bind); case h => first | (simp only [stp, stq]; first | done | rfl) | rfl)
    | ((with_reducible apply ends_t); case h => first | rfl | (simp only [stp, stq]; done))
    | ((with_reducible apply ends_f); case h => first | rfl | (simp only [stp, stq]; done))
  exact ends_some ⟨.inl rfl, _, rfl, rfl⟩
end Go.Sy
