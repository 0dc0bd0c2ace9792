/-
  Layer 11: the ways of blocks, the blocks of ways, how many blocks a size needs.
-/
import Derived.Test.YtjmdohmfienfoaaPfBase
namespace Go.Sy
open Go.Proofs

/-- the way of a block -/
def way (k : Int) : Int × Int × Int := if k < 4 then (0, k, 0) else if k < 31 then (1, k - 4, 0) else (2, (k - 31) / 27, (k - 31) % 27)
abbrev wV (a b c : Int) : AV := .agg [.v (.int .i64 a), .v (.int .i64 b), .v (.int .i64 c)]
abbrev w3 (a b c : Int) : List AV := [.v (.int .i64 a), .v (.int .i64 b), .v (.int .i64 c)]
def toV (k : Int) : AV := if 0 ≤ k ∧ k < 760 then .tup [wV (way k).1 (way k).2.1 (way k).2.2, .v (.int .i64 0)] else .tup [wV 0 0 0, .v (.int .i64 31)]
def inv (a b c : Int) : Int := if a = 0 then b else if a = 1 then b + 4 else 31 + 27 * b + c
def Way (a b c : Int) : Prop := 0 ≤ inv a b c ∧ inv a b c < 760 ∧ way (inv a b c) = (a, b, c)
instance (a b c : Int) : Decidable (Way a b c) := by unfold Way; exact inferInstance
def bV (a b c : Int) : AV := if Way a b c then .tup [.v (.int .i64 (inv a b c)), .v (.int .i64 0)] else .tup [.v (.int .i64 0), .v (.int .i64 2)]

theorem way_inv {k a b c : Int} (h0 : 0 ≤ k) (h1 : k < 760) (h : way k = (a, b, c)) : inv a b c = k := by
  unfold way at h
  split at h
  · simp only [Prod.mk.injEq] at h
    obtain ⟨rfl, rfl, rfl⟩ := h
    simp [inv]
  · split at h
    · simp only [Prod.mk.injEq] at h
      obtain ⟨rfl, rfl, rfl⟩ := h
      simp [inv]
    · simp only [Prod.mk.injEq] at h
      obtain ⟨rfl, rfl, rfl⟩ := h
      simp only [inv]
      rw [if_neg (by decide), if_neg (by decide)]
      omega
theorem way_rng {k a b c : Int} (h0 : 0 ≤ k) (h1 : k < 760) (h : way k = (a, b, c)) : (a = 0 ∨ a = 1 ∨ a = 2) ∧ 0 ≤ b ∧ b < 27 ∧ 0 ≤ c ∧ c < 27 := by
  unfold way at h
  split at h
  · simp only [Prod.mk.injEq] at h
    omega
  · split at h
    · simp only [Prod.mk.injEq] at h
      omega
    · simp only [Prod.mk.injEq] at h
      omega
theorem way_of {k a b c : Int} (h0 : 0 ≤ k) (h1 : k < 760) (h : way k = (a, b, c)) : Way a b c := by
  have := way_inv h0 h1 h
  unfold Way
  rw [this]
  exact ⟨h0, h1, h⟩

theorem wsm {x : Int} (h1 : -4611686018427387904 ≤ x) (h2 : x ≤ 4611686018427387904) : IntKind.i64.wrap x = x := by rw [wrap64]; omega
theorem al_w (bx : Bx) : allocA Try.prog bx 26 = some (.bp bx.length 0, bx ++ [w3 0 0 0]) ∧ allocA Try.prog bx 30 = some (.bp bx.length 0, bx ++ [w3 0 0 0]) := ⟨by kernel_rfl, by kernel_rfl⟩
theorem st_w0 (k g i k' g' i' : Int) : stA Try.prog 26 [w3 k g i] (.bp 0 0) (wV k' g' i') = some (.v undef, [w3 k' g' i']) ∧ stA Try.prog 30 [w3 k g i] (.bp 0 0) (wV k' g' i') = some (.v undef, [w3 k' g' i']) := ⟨by kernel_rfl, by kernel_rfl⟩
theorem st_w1 (A : List AV) (k g i k' g' i' : Int) : stA Try.prog 26 [A, w3 k g i] (.bp 1 0) (wV k' g' i') = some (.v undef, [A, w3 k' g' i']) ∧ stA Try.prog 30 [A, w3 k g i] (.bp 1 0) (wV k' g' i') = some (.v undef, [A, w3 k' g' i']) := ⟨by kernel_rfl, by kernel_rfl⟩
theorem st_w2 (A B : List AV) (k g i k' g' i' : Int) : stA Try.prog 30 [A, B, w3 k g i] (.bp 2 0) (wV k' g' i') = some (.v undef, [A, B, w3 k' g' i']) := by kernel_rfl
theorem ld_w0 (k g i : Int) (r : Bx) : loadA Try.prog 26 (w3 k g i :: r) (.bp 0 0) = some (wV k g i) ∧ loadA Try.prog 30 (w3 k g i :: r) (.bp 0 0) = some (wV k g i) := ⟨by kernel_rfl, by kernel_rfl⟩
theorem ld_w1 (A : List AV) (k g i : Int) (r : Bx) : loadA Try.prog 26 (A :: w3 k g i :: r) (.bp 1 0) = some (wV k g i) ∧ loadA Try.prog 30 (A :: w3 k g i :: r) (.bp 1 0) = some (wV k g i) := ⟨by kernel_rfl, by kernel_rfl⟩
theorem li_0 (k g i : Int) (r : Bx) : loadA Try.prog 3 (w3 k g i :: r) (.bp 0 0) = some (.v (.int .i64 k)) ∧ loadA Try.prog 3 (w3 k g i :: r) (.bp 0 1) = some (.v (.int .i64 g)) ∧ loadA Try.prog 3 (w3 k g i :: r) (.bp 0 2) = some (.v (.int .i64 i)) := ⟨by kernel_rfl, by kernel_rfl, by kernel_rfl⟩
theorem li_1 (A : List AV) (k g i : Int) (r : Bx) : loadA Try.prog 3 (A :: w3 k g i :: r) (.bp 1 0) = some (.v (.int .i64 k)) ∧ loadA Try.prog 3 (A :: w3 k g i :: r) (.bp 1 1) = some (.v (.int .i64 g)) ∧ loadA Try.prog 3 (A :: w3 k g i :: r) (.bp 1 2) = some (.v (.int .i64 i)) := ⟨by kernel_rfl, by kernel_rfl, by kernel_rfl⟩
theorem li_2 (A B : List AV) (k g i : Int) (r : Bx) : loadA Try.prog 3 (A :: B :: w3 k g i :: r) (.bp 2 0) = some (.v (.int .i64 k)) ∧ loadA Try.prog 3 (A :: B :: w3 k g i :: r) (.bp 2 1) = some (.v (.int .i64 g)) ∧ loadA Try.prog 3 (A :: B :: w3 k g i :: r) (.bp 2 2) = some (.v (.int .i64 i)) := ⟨by kernel_rfl, by kernel_rfl, by kernel_rfl⟩
theorem z_w : buildA Try.prog 26 [] = some (wV 0 0 0) ∧ buildA Try.prog 30 [] = some (wV 0 0 0) := ⟨by kernel_rfl, by kernel_rfl⟩
theorem b_w1 (x : Int) : buildA Try.prog 26 [(1, .v (.int .i64 x))] = some (wV 0 x 0) := by kernel_rfl
theorem b_w2 (x y : Int) : buildA Try.prog 26 [(0, .v (.int .i64 x)), (1, .v (.int .i64 y))] = some (wV x y 0) := by kernel_rfl
theorem b_w3 (x y z : Int) : buildA Try.prog 26 [(0, .v (.int .i64 x)), (1, .v (.int .i64 y)), (2, .v (.int .i64 z))] = some (wV x y z) ∧ buildA Try.prog 30 [(0, .v (.int .i64 x)), (1, .v (.int .i64 y)), (2, .v (.int .i64 z))] = some (wV x y z) := ⟨by kernel_rfl, by kernel_rfl⟩
theorem fa_w (k : Nat) : fieldAddrA Try.prog 26 (.bp k 0) 0 = some (.bp k 0) ∧ fieldAddrA Try.prog 26 (.bp k 0) 1 = some (.bp k 1) ∧ fieldAddrA Try.prog 26 (.bp k 0) 2 = some (.bp k 2) := ⟨by kernel_rfl, by kernel_rfl, by kernel_rfl⟩
theorem fa_wr (k : Nat) : fieldAddrA Try.prog 30 (.bp k 0) 0 = some (.bp k 0) ∧ fieldAddrA Try.prog 30 (.bp k 0) 1 = some (.bp k 1) ∧ fieldAddrA Try.prog 30 (.bp k 0) 2 = some (.bp k 2) := ⟨by kernel_rfl, by kernel_rfl, by kernel_rfl⟩
theorem frz_w (bx : Bx) (l : Bool) (a b c : Int) : frz bx l 6 (wV a b c) = wV a b c := rfl
theorem box_w (bx : Bx) (a b c : Int) : boxA bx (wV a b c) = some (.bp bx.length 0, bx ++ [w3 a b c]) := by kernel_rfl
theorem ne_w (a b c d e f : Int) : binA Try.prog .neq 26 (wV a b c) (wV d e f) = some (.v (.bool (!decide ((a, b, c) = (d, e, f))))) := by
  have : binA Try.prog .neq 26 (wV a b c) (wV d e f) = some (.v (.bool (!(a == d && (b == e && (c == f && true)))))) := by kernel_rfl
  rw [this]
  congr 3
  rw [Bool.eq_iff_iff]
  simp
theorem eq_w (a b c d e f : Int) : binA Try.prog .eql 30 (wV a b c) (wV d e f) = some (.v (.bool (decide ((a, b, c) = (d, e, f))))) := by
  have : binA Try.prog .eql 30 (wV a b c) (wV d e f) = some (.v (.bool ((a == d && (b == e && (c == f && true)))))) := by kernel_rfl
  rw [this]
  congr 3
  rw [Bool.eq_iff_iff]
  simp

theorem To_ev (m : Nat) (k : Int) : cf (evFn cx0 ext0 (m + 1)) 10 [.v (.int .i64 k)] = some (toV k) := by
  unfold cf
  rw [E_ptrs_To]
  refine ends_cf (P := Try.prog) ?_
  unfold F_ptrs_To
  unfold toV
  by_cases h0 : k < 0
  · have g0 : decide (k < 0) = true := decide_eq_true h0
    rw [if_neg (by omega)]
    have stq := (And.intro (al_w) (And.intro (z_w) (And.intro (st_w0) (g0))))
    repeat first
      | ((with_reducible apply ends_bind); case h => first | (simp only [stp, stq]; first | done | rfl) | rfl)
      | ((with_reducible apply ends_t); case h => first | rfl | (simp only [stp, stq]; done))
      | ((with_reducible apply ends_f); case h => first | rfl | (simp only [stp, stq]; done))
    exact ends_some ⟨.inl rfl, _, rfl, rfl⟩
  have g0 : decide (k < 0) = false := decide_eq_false h0
  by_cases h1 : 760 ≤ k
  · have g1 : decide (760 ≤ k) = true := decide_eq_true h1
    rw [if_neg (by omega)]
    have stq := (And.intro (al_w) (And.intro (z_w) (And.intro (st_w0) (And.intro (g0) (g1)))))
    repeat first
      | ((with_reducible apply ends_bind); case h => first | (simp only [stp, stq]; first | done | rfl) | rfl)
      | ((with_reducible apply ends_t); case h => first | rfl | (simp only [stp, stq]; done))
      | ((with_reducible apply ends_f); case h => first | rfl | (simp only [stp, stq]; done))
    exact ends_some ⟨.inl rfl, _, rfl, rfl⟩
  have g1 : decide (760 ≤ k) = false := decide_eq_false h1
  rw [if_pos (by omega)]
  unfold way
  by_cases h2 : k < 4
  · have g2 : decide (k < 4) = true := decide_eq_true h2
    rw [if_pos h2]
    have stq := (And.intro (al_w) (And.intro (b_w1) (And.intro (st_w0) (And.intro (g0) (And.intro (g1) (g2))))))
    repeat first
      | ((with_reducible apply ends_bind); case h => first | (simp only [stp, stq]; first | done | rfl) | rfl)
      | ((with_reducible apply ends_t); case h => first | rfl | (simp only [stp, stq]; done))
      | ((with_reducible apply ends_f); case h => first | rfl | (simp only [stp, stq]; done))
    exact ends_some ⟨.inl rfl, _, rfl, rfl⟩
  have g2 : decide (k < 4) = false := decide_eq_false h2
  rw [if_neg h2]
  by_cases h3 : k < 31
  · have g3 : decide (k < 31) = true := decide_eq_true h3
    have e1 := wsm (x := k - 4) (by omega) (by omega)
    rw [if_pos h3]
    have stq := (And.intro (al_w) (And.intro (b_w2) (And.intro (st_w0) (And.intro (g0) (And.intro (g1) (And.intro (g2) (And.intro (g3) (e1))))))))
    repeat first
      | ((with_reducible apply ends_bind); case h => first | (simp only [stp, stq]; first | done | rfl) | rfl)
      | ((with_reducible apply ends_t); case h => first | rfl | (simp only [stp, stq]; done))
      | ((with_reducible apply ends_f); case h => first | rfl | (simp only [stp, stq]; done))
    exact ends_some ⟨.inl rfl, _, rfl, rfl⟩
  have g3 : decide (k < 31) = false := decide_eq_false h3
  rw [if_neg h3]
  have e1 := wsm (x := k - 31) (by omega) (by omega)
  have e2 : IntKind.i64.wrap ((k - 31).tdiv 27) = (k - 31) / 27 := by rw [Int.tdiv_eq_ediv_of_nonneg (by omega), wsm (by omega) (by omega)]
  have e3 : (k - 31).tmod 27 = (k - 31) % 27 := Int.tmod_eq_emod_of_nonneg (by omega)
  have stq := (And.intro (al_w) (And.intro (b_w3) (And.intro (st_w0) (And.intro (g0) (And.intro (g1) (And.intro (g2) (And.intro (g3) (And.intro (e1) (And.intro (e2) (e3))))))))))
  repeat first
    | ((with_reducible apply ends_bind); case h => first | (simp only [stp, stq]; first | done | rfl) | rfl)
    | ((with_reducible apply ends_t); case h => first | rfl | (simp only [stp, stq]; done))
    | ((with_reducible apply ends_f); case h => first | rfl | (simp only [stp, stq]; done))
  exact ends_some ⟨.inl rfl, _, rfl, rfl⟩

theorem rTo_ev (m : Nat) (k : Int) : cf (evFn cx0 ext0 (m + 1)) 11 [.v (.int .i64 k)] = some (toV k) := by
  unfold cf
  rw [E_r11_To]
  refine ends_cf (P := Try.prog) ?_
  unfold F_r11_To
  unfold toV
  by_cases h0 : k < 0
  · have g0 : decide (k < 0) = true := decide_eq_true h0
    rw [if_neg (by omega)]
    have stq := (And.intro (al_w) (And.intro (z_w) (And.intro (st_w0) (g0))))
    repeat first
      | ((with_reducible apply ends_bind); case h => first | (simp only [stp, stq]; first | done | rfl) | rfl)
      | ((with_reducible apply ends_t); case h => first | rfl | (simp only [stp, stq]; done))
      | ((with_reducible apply ends_f); case h => first | rfl | (simp only [stp, stq]; done))
    exact ends_some ⟨.inl rfl, _, rfl, rfl⟩
  have g0 : decide (k < 0) = false := decide_eq_false h0
  by_cases h1 : 760 ≤ k
  · have g1 : decide (760 ≤ k) = true := decide_eq_true h1
    rw [if_neg (by omega)]
    have stq := (And.intro (al_w) (And.intro (z_w) (And.intro (st_w0) (And.intro (g0) (g1)))))
    repeat first
      | ((with_reducible apply ends_bind); case h => first | (simp only [stp, stq]; first | done | rfl) | rfl)
      | ((with_reducible apply ends_t); case h => first | rfl | (simp only [stp, stq]; done))
      | ((with_reducible apply ends_f); case h => first | rfl | (simp only [stp, stq]; done))
    exact ends_some ⟨.inl rfl, _, rfl, rfl⟩
  have g1 : decide (760 ≤ k) = false := decide_eq_false h1
  rw [if_pos (by omega)]
  unfold way
  by_cases h2 : k < 4
  · have g2 : decide (k < 4) = true := decide_eq_true h2
    rw [if_pos h2]
    have stq := (And.intro (al_w) (And.intro (b_w3) (And.intro (st_w0) (And.intro (g0) (And.intro (g1) (g2))))))
    repeat first
      | ((with_reducible apply ends_bind); case h => first | (simp only [stp, stq]; first | done | rfl) | rfl)
      | ((with_reducible apply ends_t); case h => first | rfl | (simp only [stp, stq]; done))
      | ((with_reducible apply ends_f); case h => first | rfl | (simp only [stp, stq]; done))
    exact ends_some ⟨.inl rfl, _, rfl, rfl⟩
  have g2 : decide (k < 4) = false := decide_eq_false h2
  rw [if_neg h2]
  by_cases h3 : k < 31
  · have g3 : decide (k < 31) = true := decide_eq_true h3
    have e1 := wsm (x := k - 4) (by omega) (by omega)
    rw [if_pos h3]
    have stq := (And.intro (al_w) (And.intro (b_w3) (And.intro (st_w0) (And.intro (g0) (And.intro (g1) (And.intro (g2) (And.intro (g3) (e1))))))))
    repeat first
      | ((with_reducible apply ends_bind); case h => first | (simp only [stp, stq]; first | done | rfl) | rfl)
      | ((with_reducible apply ends_t); case h => first | rfl | (simp only [stp, stq]; done))
      | ((with_reducible apply ends_f); case h => first | rfl | (simp only [stp, stq]; done))
    exact ends_some ⟨.inl rfl, _, rfl, rfl⟩
  have g3 : decide (k < 31) = false := decide_eq_false h3
  rw [if_neg h3]
  have e1 := wsm (x := k - 31) (by omega) (by omega)
  have e2 : IntKind.i64.wrap ((k - 31).tdiv 27) = (k - 31) / 27 := by rw [Int.tdiv_eq_ediv_of_nonneg (by omega), wsm (by omega) (by omega)]
  have e3 : (k - 31).tmod 27 = (k - 31) % 27 := Int.tmod_eq_emod_of_nonneg (by omega)
  have stq := (And.intro (al_w) (And.intro (b_w3) (And.intro (st_w0) (And.intro (g0) (And.intro (g1) (And.intro (g2) (And.intro (g3) (And.intro (e1) (And.intro (e2) (e3))))))))))
  repeat first
    | ((with_reducible apply ends_bind); case h => first | (simp only [stp, stq]; first | done | rfl) | rfl)
    | ((with_reducible apply ends_t); case h => first | rfl | (simp only [stp, stq]; done))
    | ((with_reducible apply ends_f); case h => first | rfl | (simp only [stp, stq]; done))
  exact ends_some ⟨.inl rfl, _, rfl, rfl⟩

theorem may_ev (m : Nat) (k : Int) : cf (evFn cx0 ext0 (m + 1)) 22 [.v (.int .i64 k)] = some (.v (.bool (decide (0 ≤ k ∧ k < 27)))) := by
  unfold cf
  rw [E_ptrs_may]
  refine ends_cf (P := Try.prog) ?_
  unfold F_ptrs_may
  by_cases h0 : 0 ≤ k
  · have g0 : decide (0 ≤ k) = true := decide_eq_true h0
    rw [show decide (0 ≤ k ∧ k < 27) = decide (k < 27) by simp [h0]]
    have stq := (g0)
    repeat first
      | ((with_reducible apply ends_bind); case h => first | (simp only [stp, stq]; first | done | rfl) | rfl)
      | ((with_reducible apply ends_t); case h => first | rfl | (simp only [stp, stq]; done))
      | ((with_reducible apply ends_f); case h => first | rfl | (simp only [stp, stq]; done))
    exact ends_some ⟨.inl rfl, _, rfl, rfl⟩
  · have g0 : decide (0 ≤ k) = false := decide_eq_false h0
    rw [show decide (0 ≤ k ∧ k < 27) = false by simp [h0]]
    have stq := (g0)
    repeat first
      | ((with_reducible apply ends_bind); case h => first | (simp only [stp, stq]; first | done | rfl) | rfl)
      | ((with_reducible apply ends_t); case h => first | rfl | (simp only [stp, stq]; done))
      | ((with_reducible apply ends_f); case h => first | rfl | (simp only [stp, stq]; done))
    exact ends_some ⟨.inl rfl, _, rfl, rfl⟩
def bl (x : Int) : Int := if x ≤ 0 then 0 else IntKind.i64.wrap (IntKind.i64.wrap ((IntKind.i64.wrap (x - 1)).tdiv 64) + 1)
theorem Blocks_ev (m : Nat) (x : Int) : cf (evFn cx0 ext0 (m + 1)) 7 [.v (.int .i64 x)] = some (.v (.int .i64 (bl x))) := by
  unfold cf
  rw [E_ptrs_Blocks]
  refine ends_cf (P := Try.prog) ?_
  unfold F_ptrs_Blocks
  unfold bl
  by_cases h0 : x ≤ 0
  · have g0 : decide (x ≤ 0) = true := decide_eq_true h0
    rw [if_pos h0]
    have stq := (g0)
    repeat first
      | ((with_reducible apply ends_bind); case h => first | (simp only [stp, stq]; first | done | rfl) | rfl)
      | ((with_reducible apply ends_t); case h => first | rfl | (simp only [stp, stq]; done))
      | ((with_reducible apply ends_f); case h => first | rfl | (simp only [stp, stq]; done))
    exact ends_some ⟨.inl rfl, _, rfl, rfl⟩
  · have g0 : decide (x ≤ 0) = false := decide_eq_false h0
    rw [if_neg h0]
    have stq := (g0)
    repeat first
      | ((with_reducible apply ends_bind); case h => first | (simp only [stp, stq]; first | done | rfl) | rfl)
      | ((with_reducible apply ends_t); case h => first | rfl | (simp only [stp, stq]; done))
      | ((with_reducible apply ends_f); case h => first | rfl | (simp only [stp, stq]; done))
    exact ends_some ⟨.inl rfl, _, rfl, rfl⟩
theorem rBlocks_ev (m : Nat) (x : Int) : cf (evFn cx0 ext0 (m + 1)) 8 [.v (.int .i64 x)] = some (.v (.int .i64 (bl x))) := by
  unfold cf
  rw [E_r11_Blocks]
  refine ends_cf (P := Try.prog) ?_
  unfold F_r11_Blocks
  unfold bl
  by_cases h0 : x ≤ 0
  · have g0 : decide (x ≤ 0) = true := decide_eq_true h0
    rw [if_pos h0]
    have stq := (g0)
    repeat first
      | ((with_reducible apply ends_bind); case h => first | (simp only [stp, stq]; first | done | rfl) | rfl)
      | ((with_reducible apply ends_t); case h => first | rfl | (simp only [stp, stq]; done))
      | ((with_reducible apply ends_f); case h => first | rfl | (simp only [stp, stq]; done))
    exact ends_some ⟨.inl rfl, _, rfl, rfl⟩
  · have g0 : decide (x ≤ 0) = false := decide_eq_false h0
    rw [if_neg h0]
    have stq := (g0)
    repeat first
      | ((with_reducible apply ends_bind); case h => first | (simp only [stp, stq]; first | done | rfl) | rfl)
      | ((with_reducible apply ends_t); case h => first | rfl | (simp only [stp, stq]; done))
      | ((with_reducible apply ends_f); case h => first | rfl | (simp only [stp, stq]; done))
    exact ends_some ⟨.inl rfl, _, rfl, rfl⟩

theorem Block_ev (m : Nat) (a b c : Int) : cf (evFn cx0 ext0 (m + 2)) 12 [wV a b c] = some (bV a b c) := by
  have b0 := fun bx => box_w bx a b c
  have f0 := fun (k : Nat) => fa_w k
  have i0 := fun r => li_0 a b c r
  have l0 := fun r => ld_w0 a b c r
  have l1 := fun p q r s => ld_w1 (w3 a b c) p q r s
  have i1 := may_ev m c
  have s1 := fun k g i k' g' i' => st_w1 (w3 a b c) k g i k' g' i'
  unfold cf
  rw [E_ptrs_Block]
  refine ends_cf (P := Try.prog) ?_
  unfold F_ptrs_Block
  by_cases h1 : b < 0
  · have g1 : decide (b < 0) = true := decide_eq_true h1
    rw [show bV a b c = _ from if_neg (fun h => by have := way_rng h.1 h.2.1 h.2.2; omega)]
    have stq := (And.intro (b0) (And.intro (f0) (And.intro (i0) (g1))))
    repeat first
      | ((with_reducible apply ends_bind); case h => first | (simp only [stp, stq]; first | done | rfl) | rfl)
      | ((with_reducible apply ends_t); case h => first | rfl | (simp only [stp, stq]; done))
      | ((with_reducible apply ends_f); case h => first | rfl | (simp only [stp, stq]; done))
    exact ends_some ⟨.inl rfl, _, rfl, rfl⟩
  have g1 : decide (b < 0) = false := decide_eq_false h1
  by_cases h2 : 27 ≤ b
  · have g2 : decide (27 ≤ b) = true := decide_eq_true h2
    rw [show bV a b c = _ from if_neg (fun h => by have := way_rng h.1 h.2.1 h.2.2; omega)]
    have stq := (And.intro (b0) (And.intro (f0) (And.intro (i0) (And.intro (g1) (g2)))))
    repeat first
      | ((with_reducible apply ends_bind); case h => first | (simp only [stp, stq]; first | done | rfl) | rfl)
      | ((with_reducible apply ends_t); case h => first | rfl | (simp only [stp, stq]; done))
      | ((with_reducible apply ends_f); case h => first | rfl | (simp only [stp, stq]; done))
    exact ends_some ⟨.inl rfl, _, rfl, rfl⟩
  have g2 : decide (27 ≤ b) = false := decide_eq_false h2
  by_cases h3 : 0 ≤ c ∧ c < 27
  case neg =>
    have m1 : decide (0 ≤ c ∧ c < 27) = false := decide_eq_false h3
    have m2 : (!false) = true := rfl
    rw [show bV a b c = _ from if_neg (fun h => by have := way_rng h.1 h.2.1 h.2.2; omega)]
    have stq := (And.intro (b0) (And.intro (f0) (And.intro (i0) (And.intro (i1) (And.intro (g1) (And.intro (g2) (And.intro (m1) (m2))))))))
    repeat first
      | ((with_reducible apply ends_bind); case h => first | (simp only [stp, stq]; first | done | rfl) | rfl)
      | ((with_reducible apply ends_t); case h => first | rfl | (simp only [stp, stq]; done))
      | ((with_reducible apply ends_f); case h => first | rfl | (simp only [stp, stq]; done))
    exact ends_some ⟨.inl rfl, _, rfl, rfl⟩
  have m1 : decide (0 ≤ c ∧ c < 27) = true := decide_eq_true h3
  by_cases h4 : a = 1
  · have q1 : (a == 1) = true := by simp [h4]
    have e1 := wsm (x := b + 4) (by omega) (by omega)
    have t1 : cf (evFn cx0 ext0 (m + 1)) 10 [.v (.int .i64 (b + 4))] = _ := To_ev m (b + 4)
    rw [show toV (b + 4) = _ from if_pos (by omega)] at t1
    generalize hw : way (b + 4) = w at t1
    obtain ⟨p, q, r⟩ := w
    have nz : ((0 : Int) != 0) = false := rfl
    have t2 := ne_w p q r a b c
    by_cases he : (p, q, r) = (a, b, c)
    · rw [he] at hw
      have hy := way_of (by omega) (by omega) hw
      have hi := way_inv (by omega) (by omega) hw
      rw [decide_eq_true he] at t2
      rw [show bV a b c = _ from if_pos hy, hi]
      have stq := (And.intro (b0) (And.intro (f0) (And.intro (i0) (And.intro (i1) (And.intro (l0) (And.intro (l1) (And.intro (s1) (And.intro (t1) (And.intro (t2) (And.intro (nz) (And.intro (al_w) (And.intro (frz_w) (And.intro (g1) (And.intro (g2) (And.intro (m1) (And.intro (q1) (e1)))))))))))))))))
      repeat first
        | ((with_reducible apply ends_bind); case h => first | (simp only [stp, stq]; first | done | rfl) | rfl)
        | ((with_reducible apply ends_t); case h => first | rfl | (simp only [stp, stq]; done))
        | ((with_reducible apply ends_f); case h => first | rfl | (simp only [stp, stq]; done))
      exact ends_some ⟨.inl rfl, _, rfl, rfl⟩
    · rw [decide_eq_false he] at t2
      rw [show bV a b c = _ from if_neg (fun h => he (by have h5 := h.2.2; rw [show inv a b c = b + 4 by simp [inv, h4], hw] at h5; exact h5))]
      have stq := (And.intro (b0) (And.intro (f0) (And.intro (i0) (And.intro (i1) (And.intro (l0) (And.intro (l1) (And.intro (s1) (And.intro (t1) (And.intro (t2) (And.intro (nz) (And.intro (al_w) (And.intro (frz_w) (And.intro (g1) (And.intro (g2) (And.intro (m1) (And.intro (q1) (e1)))))))))))))))))
      repeat first
        | ((with_reducible apply ends_bind); case h => first | (simp only [stp, stq]; first | done | rfl) | rfl)
        | ((with_reducible apply ends_t); case h => first | rfl | (simp only [stp, stq]; done))
        | ((with_reducible apply ends_f); case h => first | rfl | (simp only [stp, stq]; done))
      exact ends_some ⟨.inl rfl, _, rfl, rfl⟩
  have q1 : (a == 1) = false := by simp [h4]
  by_cases h5 : a = 2
  · have q2 : (a == 2) = true := by simp [h5]
    have e1 := wsm (x := 27 * b) (by omega) (by omega)
    have e2 := wsm (x := 31 + 27 * b) (by omega) (by omega)
    have e3 := wsm (x := 31 + 27 * b + c) (by omega) (by omega)
    have t1 : cf (evFn cx0 ext0 (m + 1)) 10 [.v (.int .i64 (31 + 27 * b + c))] = _ := To_ev m (31 + 27 * b + c)
    rw [show toV (31 + 27 * b + c) = _ from if_pos (by omega)] at t1
    generalize hw : way (31 + 27 * b + c) = w at t1
    obtain ⟨p, q, r⟩ := w
    have nz : ((0 : Int) != 0) = false := rfl
    have t2 := ne_w p q r a b c
    by_cases he : (p, q, r) = (a, b, c)
    · rw [he] at hw
      have hy := way_of (by omega) (by omega) hw
      have hi := way_inv (by omega) (by omega) hw
      rw [decide_eq_true he] at t2
      rw [show bV a b c = _ from if_pos hy, hi]
      have stq := (And.intro (b0) (And.intro (f0) (And.intro (i0) (And.intro (i1) (And.intro (l0) (And.intro (l1) (And.intro (s1) (And.intro (t1) (And.intro (t2) (And.intro (nz) (And.intro (al_w) (And.intro (frz_w) (And.intro (g1) (And.intro (g2) (And.intro (m1) (And.intro (q1) (And.intro (q2) (And.intro (e1) (And.intro (e2) (e3))))))))))))))))))))
      repeat first
        | ((with_reducible apply ends_bind); case h => first | (simp only [stp, stq]; first | done | rfl) | rfl)
        | ((with_reducible apply ends_t); case h => first | rfl | (simp only [stp, stq]; done))
        | ((with_reducible apply ends_f); case h => first | rfl | (simp only [stp, stq]; done))
      exact ends_some ⟨.inl rfl, _, rfl, rfl⟩
    · rw [decide_eq_false he] at t2
      rw [show bV a b c = _ from if_neg (fun h => he (by have h6 := h.2.2; rw [show inv a b c = 31 + 27 * b + c by simp [inv, h5], hw] at h6; exact h6))]
      have stq := (And.intro (b0) (And.intro (f0) (And.intro (i0) (And.intro (i1) (And.intro (l0) (And.intro (l1) (And.intro (s1) (And.intro (t1) (And.intro (t2) (And.intro (nz) (And.intro (al_w) (And.intro (frz_w) (And.intro (g1) (And.intro (g2) (And.intro (m1) (And.intro (q1) (And.intro (q2) (And.intro (e1) (And.intro (e2) (e3))))))))))))))))))))
      repeat first
        | ((with_reducible apply ends_bind); case h => first | (simp only [stp, stq]; first | done | rfl) | rfl)
        | ((with_reducible apply ends_t); case h => first | rfl | (simp only [stp, stq]; done))
        | ((with_reducible apply ends_f); case h => first | rfl | (simp only [stp, stq]; done))
      exact ends_some ⟨.inl rfl, _, rfl, rfl⟩
  have q2 : (a == 2) = false := by simp [h5]
  · have t1 : cf (evFn cx0 ext0 (m + 1)) 10 [.v (.int .i64 b)] = _ := To_ev m b
    rw [show toV b = _ from if_pos (by omega)] at t1
    generalize hw : way b = w at t1
    obtain ⟨p, q, r⟩ := w
    have nz : ((0 : Int) != 0) = false := rfl
    have t2 := ne_w p q r a b c
    by_cases he : (p, q, r) = (a, b, c)
    · rw [he] at hw
      have hy := way_of (by omega) (by omega) hw
      have hi := way_inv (by omega) (by omega) hw
      rw [decide_eq_true he] at t2
      rw [show bV a b c = _ from if_pos hy, hi]
      have stq := (And.intro (b0) (And.intro (f0) (And.intro (i0) (And.intro (i1) (And.intro (l0) (And.intro (l1) (And.intro (s1) (And.intro (t1) (And.intro (t2) (And.intro (nz) (And.intro (al_w) (And.intro (frz_w) (And.intro (g1) (And.intro (g2) (And.intro (m1) (And.intro (q1) (q2)))))))))))))))))
      repeat first
        | ((with_reducible apply ends_bind); case h => first | (simp only [stp, stq]; first | done | rfl) | rfl)
        | ((with_reducible apply ends_t); case h => first | rfl | (simp only [stp, stq]; done))
        | ((with_reducible apply ends_f); case h => first | rfl | (simp only [stp, stq]; done))
      exact ends_some ⟨.inl rfl, _, rfl, rfl⟩
    · rw [decide_eq_false he] at t2
      rw [show bV a b c = _ from if_neg (fun h => he (by have h6 := h.2.2; have h7 := way_rng h.1 h.2.1 h.2.2; rw [show inv a b c = b by rw [inv, if_pos (by omega)], hw] at h6; exact h6))]
      have stq := (And.intro (b0) (And.intro (f0) (And.intro (i0) (And.intro (i1) (And.intro (l0) (And.intro (l1) (And.intro (s1) (And.intro (t1) (And.intro (t2) (And.intro (nz) (And.intro (al_w) (And.intro (frz_w) (And.intro (g1) (And.intro (g2) (And.intro (m1) (And.intro (q1) (q2)))))))))))))))))
      repeat first
        | ((with_reducible apply ends_bind); case h => first | (simp only [stp, stq]; first | done | rfl) | rfl)
        | ((with_reducible apply ends_t); case h => first | rfl | (simp only [stp, stq]; done))
        | ((with_reducible apply ends_f); case h => first | rfl | (simp only [stp, stq]; done))
      exact ends_some ⟨.inl rfl, _, rfl, rfl⟩

theorem rBlock_ev (n : Nat) (hn : 800 ≤ n) (a b c : Int) : cf (evFn cx0 ext0 n) 13 [wV a b c] = some (bV a b c) := by
  obtain ⟨m, rfl⟩ : ∃ m, n = m + 2 := ⟨n - 2, by omega⟩
  have b0 := fun bx => box_w bx a b c
  unfold cf
  rw [E_r11_Block]
  refine ends_cf (P := Try.prog) ?_
  unfold F_r11_Block
  have stq := (b0)
  repeat first
    | ((with_reducible apply ends_bind); case h => first | (simp only [stp, stq]; first | done | rfl) | rfl)
    | ((with_reducible apply ends_t); case h => first | rfl | (simp only [stp, stq]; done))
    | ((with_reducible apply ends_f); case h => first | rfl | (simp only [stp, stq]; done))
  refine ends_loop (fun k s => ∃ (j : Int) (y0 : AV), s = ⟨[(4, .v (.int .i64 j)), (3, .v (.int .i64 0)), (2, .v (.int .i64 0)), (1, .bp 0 0), (0, y0)], [w3 a b c]⟩ ∧ 0 ≤ j ∧ j + k = 760 ∧ ∀ i, 0 ≤ i → i < j → way i ≠ (a, b, c)) 760 (by omega) ⟨0, _, rfl, by omega, by omega, fun i h1 h2 => by omega⟩ ?_
  rintro k s ⟨j, y0, rfl, hj0, hjk, hno⟩
  refine L_r11_Block_0_lit ?_
  unfold B_r11_Block_0
  rcases k with _ | k
  · have g0 : decide (j < 760) = false := decide_eq_false (by omega)
    have stq := (g0)
    repeat first
      | ((with_reducible apply ends_bind); case h => first | (simp only [stp, stq]; first | done | rfl) | rfl)
      | ((with_reducible apply ends_t); case h => first | rfl | (simp only [stp, stq]; done))
      | ((with_reducible apply ends_f); case h => first | rfl | (simp only [stp, stq]; done))
    refine ends_some (.inr (.inl ⟨0, rfl, X_r11_Block_0_0_lit ?_⟩))
    unfold X_r11_Block_0_0
    rw [show bV a b c = _ from if_neg (fun h => hno _ h.1 (by have := h.2.1; omega) h.2.2)]
    exact ends_some ⟨.inl rfl, _, rfl, rfl⟩
  · have g0 : decide (j < 760) = true := decide_eq_true (by omega)
    have t1 : cf (evFn cx0 ext0 (m + 1)) 11 [.v (.int .i64 j)] = _ := rTo_ev m j
    rw [show toV j = _ from if_pos (by omega)] at t1
    have l0 := fun r => ld_w0 a b c r
    have l1 := fun p q r s => ld_w1 (w3 a b c) p q r s
    have s1 := fun k g i k' g' i' => st_w1 (w3 a b c) k g i k' g' i'
    have e1 := wsm (x := j + 1) (by omega) (by omega)
    generalize hw : way j = w at t1
    obtain ⟨p, q, r⟩ := w
    have t2 := eq_w p q r a b c
    by_cases he : (p, q, r) = (a, b, c)
    · rw [he] at hw
      have hy := way_of (by omega) (by omega) hw
      have hi := way_inv (by omega) (by omega) hw
      rw [decide_eq_true he] at t2
      rw [show bV a b c = _ from if_pos hy, hi]
      have stq := (And.intro (g0) (And.intro (t1) (And.intro (t2) (And.intro (l0) (And.intro (l1) (And.intro (s1) (And.intro (al_w) (And.intro (frz_w) (e1)))))))))
      repeat first
        | ((with_reducible apply ends_bind); case h => first | (simp only [stp, stq]; first | done | rfl) | rfl)
        | ((with_reducible apply ends_t); case h => first | rfl | (simp only [stp, stq]; done))
        | ((with_reducible apply ends_f); case h => first | rfl | (simp only [stp, stq]; done))
      exact ends_some (.inr (.inr ⟨rfl, .inl rfl, _, rfl, rfl⟩))
    · rw [decide_eq_false he] at t2
      have stq := (And.intro (g0) (And.intro (t1) (And.intro (t2) (And.intro (l0) (And.intro (l1) (And.intro (s1) (And.intro (al_w) (And.intro (frz_w) (e1)))))))))
      repeat first
        | ((with_reducible apply ends_bind); case h => first | (simp only [stp, stq]; first | done | rfl) | rfl)
        | ((with_reducible apply ends_t); case h => first | rfl | (simp only [stp, stq]; done))
        | ((with_reducible apply ends_f); case h => first | rfl | (simp only [stp, stq]; done))
      refine ends_some (.inl ⟨rfl, k, by omega, j + 1, _, rfl, by omega, by omega, fun i h1 h2 => ?_⟩)
      by_cases h3 : i = j
      · rw [h3, hw]
        exact he
      · exact hno i h1 (by omega)
end Go.Sy
