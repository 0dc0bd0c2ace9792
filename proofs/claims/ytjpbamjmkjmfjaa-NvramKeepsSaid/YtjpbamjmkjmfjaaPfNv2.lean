/-
  Layer 05: words that turn.
-/
import Derived.Test.YtjpbamjmkjmfjaaPfNv
namespace Go.Sy
open Go.Proofs Num Crc

theorem use_here6 (l u : Int) (W A B C D : List AV) : useK [.bp 0 0] [sup l u false, W, A, B, C, D] = condO (.v (.bool (l == 0))) (some (.v (.int .i64 20), [sup l u true, W, A, B, C, D, [.bp 0 0], [.v (.int .i64 20)]]))
    (condO (.v (.bool (decide (l > 0)))) (some (.v (.int .i64 0), [sup (IntKind.i64.wrap (l - 1)) (IntKind.i64.wrap (u + 1)) false, W, A, B, C, D, [.bp 0 0], [.v (.int .i64 0)]])) (some (.v (.int .i64 0), [sup l (IntKind.i64.wrap (u + 1)) false, W, A, B, C, D, [.bp 0 0], [.v (.int .i64 0)]]))) := by kernel_rfl
theorem use_fn {args : List AV} {bx : Bx} {y : AV × Bx} (m : Nat) (h : useK args bx = some y) : evFn cx0 ext0 (m + 1) 25 args bx = some y := by
  have h1 : ext0 25 args bx = some y := by
    show extC _ args bx = _
    unfold extC
    rw [if_pos rfl]
    exact evDK_eq h
  unfold evFn
  rw [h1]
/-- how many rounds a turn makes -/
def rds (l : Int) : Nat := if l = -1 then 3 else min l.toNat 3
/-- what is left when so many were used -/
def lft (l : Int) (i : Nat) : Int := if l = -1 then -1 else l - i
/-- the words when so many rounds are made -/
def wst (t g s k : BitVec 32) : Nat → List AV
  | 0 => wds t g s
  | 1 => wds t k s
  | 2 => wds (t + 1) k s
  | _ => wds (t + 1) k (tot (t + 1) k)
theorem use_6 (m : Nat) (l u : Int) (i : Nat) (hl : l = -1 ∨ (0 ≤ l ∧ l ≤ 4)) (hi : i < 3) (hk : i ≤ rds l) (W A B C D : List AV) :
    ∃ u' r, evFn cx0 ext0 (m + 1) 25 [.bp 0 0] [sup (lft l i) u false, W, A, B, C, D] = some (.v (.int .i64 (if i < rds l then 0 else 20)), [sup (if i < rds l then lft l (i + 1) else lft l i) u' (!decide (i < rds l)), W, A, B, C, D] ++ r) := by
  have k := use_here6 (lft l i) u W A B C D
  unfold lft rds at *
  rcases hl with rfl | ⟨h1, h2⟩
  · simp only [if_true] at k ⊢ hk
    simp only [ite_self]
    rw [if_pos (by omega), decide_eq_true (by omega)]
    exact ⟨_, _, use_fn m k⟩
  · have hn : ¬ l = -1 := by omega
    rw [if_neg hn] at hk k
    simp only [if_neg hn]
    by_cases hlt : i < min l.toNat 3
    · have c1 : ((l - (i : Int)) == 0) = false := by simp; omega
      have c2 : decide ((l - (i : Int)) > 0) = true := decide_eq_true (by omega)
      have e1 : IntKind.i64.wrap (l - (i : Int) - 1) = l - ((i + 1 : Nat) : Int) := by rw [wrap64]; omega
      rw [c1, c2, e1] at k
      simp only [if_pos hlt, decide_eq_true hlt]
      exact ⟨_, _, use_fn m k⟩
    · have c1 : ((l - (i : Int)) == 0) = true := by simp; omega
      rw [c1] at k
      simp only [if_neg hlt, decide_eq_false hlt]
      exact ⟨_, _, use_fn m k⟩
/-- the rounds' own cells -/
def rows : List AV := [.v (.int .i64 1), .fn 23 [] [.bp 3 0], .v (.int .i64 0), .fn 24 [] [.bp 2 0], .v (.int .i64 2), .fn 21 [.bp 1 0] []]
def rowA (i : Nat) : Int := if i = 0 then 1 else if i = 1 then 0 else 2
def rowF (i : Nat) : AV := if i = 0 then .fn 23 [] [.bp 3 0] else if i = 1 then .fn 24 [] [.bp 2 0] else .fn 21 [.bp 1 0] []
def rowZ : List AV := [.v (.int .i64 0), .v .nilFunc]
theorem keep6 (l u : Int) (gn : Bool) (t g s k : BitVec 32) (i : Nat) (hi : i < 3) : [sup l u gn, wds t g s, [.bp 1 0], [v32 k], rows, [.v (.int .i64 (rowA i)), rowF i]].map (fun l => l.map (AV.keep (· < 6))) = [sup l u gn, wds t g s, [.bp 1 0], [v32 k], rows, [.v (.int .i64 (rowA i)), rowF i]] := by
  match i, hi with
  | 0, _ => rfl
  | 1, _ => rfl
  | 2, _ => rfl
theorem eq6 (l u : Int) (gn : Bool) (t g s k : BitVec 32) (i : Nat) (hi : i < 3) : eqBx [sup l u gn, wds t g s, [.bp 1 0], [v32 k], rows, [.v (.int .i64 (rowA i)), rowF i]] [sup l u gn, wds t g s, [.bp 1 0], [v32 k], rows, [.v (.int .i64 (rowA i)), rowF i]] = true := by
  match i, hi with
  | 0, _ => simp [sup, wds, rows, rowA, rowF, eqBx, eqCs, eqC, eqD, eqDs, eqV]
  | 1, _ => simp [sup, wds, rows, rowA, rowF, eqBx, eqCs, eqC, eqD, eqDs, eqV]
  | 2, _ => simp [sup, wds, rows, rowA, rowF, eqBx, eqCs, eqC, eqD, eqDs, eqV]
theorem ix_r (i : Nat) (hi : i < 3) : indexAddrA Try.prog 50 (.bsl 4 0 3 2) (.v (.int .i64 i)) = some (.bp 4 (2 * i)) := by
  rcases i with _ | _ | _ | i
  · kernel_rfl
  · kernel_rfl
  · kernel_rfl
  · omega
theorem ld_r (S W A B : List AV) (r : Bx) (i : Nat) (hi : i < 3) : loadA Try.prog 49 (S :: W :: A :: B :: rows :: r) (.bp 4 (2 * i)) = some (.agg [.v (.int .i64 (rowA i)), rowF i]) := by
  rcases i with _ | _ | _ | i
  · kernel_rfl
  · kernel_rfl
  · kernel_rfl
  · omega
theorem al_r (bx : Bx) : allocA Try.prog bx 49 = some (.bp bx.length 0, bx ++ [rowZ]) := by kernel_rfl
theorem st_r (S W A B C : List AV) (i : Nat) (hi : i < 3) : stA Try.prog 49 [S, W, A, B, C, rowZ] (.bp 5 0) (.agg [.v (.int .i64 (rowA i)), rowF i]) = some (.v undef, [S, W, A, B, C, [.v (.int .i64 (rowA i)), rowF i]]) := by
  rcases i with _ | _ | _ | i
  · kernel_rfl
  · kernel_rfl
  · kernel_rfl
  · omega
theorem fa_r : fieldAddrA Try.prog 49 (.bp 5 0) 0 = some (.bp 5 0) ∧ fieldAddrA Try.prog 49 (.bp 5 0) 1 = some (.bp 5 1) := ⟨by kernel_rfl, by kernel_rfl⟩
theorem ld_c (S W A B C : List AV) (x y : AV) : loadA Try.prog 3 [S, W, A, B, C, [x, y]] (.bp 5 0) = some x ∧ loadA Try.prog 42 [S, W, A, B, C, [x, y]] (.bp 5 1) = some y := ⟨by kernel_rfl, by kernel_rfl⟩
theorem ld_p (S W : List AV) (r : Bx) : loadA Try.prog 26 (S :: W :: [.bp 1 0] :: r) (.bp 2 0) = some (.bp 1 0) := by kernel_rfl
theorem ld_s (S : List AV) (t g s : BitVec 32) (r : Bx) : loadA Try.prog 24 (S :: wds t g s :: r) (.bp 1 0) = some (.bp 0 0) := by kernel_rfl
theorem st_w (S : List AV) (t g s x : BitVec 32) (r : Bx) : stA Try.prog 32 (S :: wds t g s :: r) (.bp 1 1) (v32 x) = some (.v undef, S :: wds x g s :: r) ∧ stA Try.prog 32 (S :: wds t g s :: r) (.bp 1 2) (v32 x) = some (.v undef, S :: wds t x s :: r) ∧ stA Try.prog 32 (S :: wds t g s :: r) (.bp 1 3) (v32 x) = some (.v undef, S :: wds t g x :: r) := ⟨by kernel_rfl, by kernel_rfl, by kernel_rfl⟩
theorem ld_m (S W : List AV) (A : List AV) (k : BitVec 32) (r : Bx) : loadA Try.prog 32 (S :: W :: A :: [v32 k] :: r) (.bp 3 0) = some (v32 k) := by kernel_rfl
theorem to1_raw (m : Nat) (S W A C D : List AV) (k : BitVec 32) : evFn cx0 ext0 (m + 1) 23 [.bp 3 0] [S, W, A, [v32 k], C, D] = some (v32 k, [S, W, A, [v32 k], C, D]) := by
  have ld := ld_m S W A k [C, D]
  rw [E_nvram_Words_to_1]
  refine ends_fin (P := Try.prog) ?_
  unfold F_nvram_Words_to_1
  have stq := (ld)
  repeat first
    | ((with_reducible apply ends_bind); case h => first | (simp only [stp, stq]; first | done | rfl) | rfl)
    | ((with_reducible apply ends_t); case h => first | rfl | (simp only [stp, stq]; done))
    | ((with_reducible apply ends_f); case h => first | rfl | (simp only [stp, stq]; done))
  exact ends_some ⟨.inl rfl, _, rfl, rfl⟩
theorem inc (t : BitVec 32) : IntKind.u32.wrap (i32 t + 1) = i32 (t + 1) := by
  rw [wrap32]
  unfold i32
  rw [BitVec.toNat_add]
  show _ = (((t.toNat + 1) % 2 ^ 32 : Nat) : Int)
  omega
theorem to2_raw (m : Nat) (S C D B : List AV) (t g s : BitVec 32) : evFn cx0 ext0 (m + 1) 24 [.bp 2 0] [S, wds t g s, [.bp 1 0], B, C, D] = some (v32 (t + 1), [S, wds t g s, [.bp 1 0], B, C, D]) := by
  have ld := ld_p S (wds t g s) [B, C, D]
  have lw := (ld_w S t g s [[.bp 1 0], B, C, D]).1
  have e := inc t
  rw [E_nvram_Words_to_2]
  refine ends_fin (P := Try.prog) ?_
  unfold F_nvram_Words_to_2
  have stq := (And.intro (ld) (And.intro (nil_p) (And.intro (fa_w) (And.intro (ia_w) (And.intro (lw) (e))))))
  repeat first
    | ((with_reducible apply ends_bind); case h => first | (simp only [stp, stq]; first | done | rfl) | rfl)
    | ((with_reducible apply ends_t); case h => first | rfl | (simp only [stp, stq]; done))
    | ((with_reducible apply ends_f); case h => first | rfl | (simp only [stp, stq]; done))
  exact ends_some ⟨.inl rfl, _, rfl, rfl⟩
theorem bl_1 (k : BitVec 32) : buildA Try.prog 49 [(0, .v (.int .i64 1)), (1, .fn 23 [] [.bp 3 0])] = some (.agg [.v (.int .i64 1), .fn 23 [] [.bp 3 0]]) ∧ buildA Try.prog 49 [(0, .v (.int .i64 0)), (1, .fn 24 [] [.bp 2 0])] = some (.agg [.v (.int .i64 0), .fn 24 [] [.bp 2 0]]) ∧ buildA Try.prog 49 [(0, .v (.int .i64 2)), (1, .fn 21 [.bp 1 0] [])] = some (.agg [.v (.int .i64 2), .fn 21 [.bp 1 0] []]) := ⟨by kernel_rfl, by kernel_rfl, by kernel_rfl⟩
theorem bs_r (bx : Bx) : buildSliceA Try.prog bx 50 3 [(0, .agg [.v (.int .i64 1), .fn 23 [] [.bp 3 0]]), (1, .agg [.v (.int .i64 0), .fn 24 [] [.bp 2 0]]), (2, .agg [.v (.int .i64 2), .fn 21 [.bp 1 0] []])] = some (.bsl bx.length 0 3 2, bx ++ [rows]) := by kernel_rfl
theorem ln_r : lenA Try.prog 50 (.bsl 4 0 3 2) = some (.v (.int .i64 3)) := by kernel_rfl
theorem bx_v (bx : Bx) (k : BitVec 32) : boxA bx (v32 k) = some (.bp bx.length 0, bx ++ [[v32 k]]) := rfl
theorem bx_p (bx : Bx) : boxA bx (.bp 1 0) = some (.bp bx.length 0, bx ++ [[.bp 1 0]]) := rfl
end Go.Sy
