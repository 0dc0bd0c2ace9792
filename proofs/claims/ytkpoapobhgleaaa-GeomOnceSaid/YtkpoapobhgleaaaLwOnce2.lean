/-
  Layer 06: the law GeomOnce as the reader reads it: the last two loops.
-/
import Derived.Test.YtkpoapobhgleaaaLwOnce
namespace Go.Sy
open Go.Proofs

theorem stage3 {E : FnA} {f n0 N S : Nat} {P : Nat → Nat → Bool} (hf : N < f) (hN : N ≤ 100000) (hP : ∀ p, p < N → cS P S p = 1) (x136 x23 x54 x9 x46 x7 x30 x6 x0 x1 x2 : AV) (b0 : List AV) :
    Ends (X_l06_GeomOnce_2_0 E f n0 x136 x23 x54 x9 x46 (.bsl 1 0 N 1) x7 x30 x6 x0 x1 x2 [b0, il (seen P S N)]) (RetQ Try.prog [.tmp 6] (.v (.bool true))) := by
  unfold X_l06_GeomOnce_2_0
  refine ends_loop (fun k s => ∃ (j : Nat) (y136 y23 y54 y9 y46 y7 y30 y6 y0 y1 y2 : AV) (c0 c1 : List AV), s = ⟨[(28, .v (.int .i64 j)), (136, y136), (23, y23), (54, y54), (9, y9), (46, y46), (8, .bsl 1 0 N 1), (7, y7), (30, y30), (6, y6), (0, y0), (1, y1), (2, y2)], [c0, c1]⟩ ∧
    c1 = il (seen P S N) ∧ j + k = N) N hf ⟨0, _, _, _, _, _, _, _, _, _, _, _, _, _, rfl, rfl, by omega⟩ ?_
  rintro k s ⟨j, y136, y23, y54, y9, y46, y7, y30, y6, y0, y1, y2, c0, c1, rfl, rfl, hjk⟩
  refine L_l06_GeomOnce_3_lit ?_
  unfold B_l06_GeomOnce_3
  have l1 := len_il 1 N
  rcases k with _ | k
  · have g0 : decide ((j : Int) < (N : Int)) = false := decide_eq_false (by omega)
    have stq := (And.intro (l1) (g0))
    repeat first
      | ((with_reducible apply ends_bind); case h => first | (simp only [stp, stq]; first | done | rfl) | rfl)
      | ((with_reducible apply ends_t); case h => first | rfl | (simp only [stp, stq]; done))
      | ((with_reducible apply ends_f); case h => first | rfl | (simp only [stp, stq]; done))
    refine ends_some (.inr (.inl ⟨6, rfl, X_l06_GeomOnce_3_0_lit ?_⟩))
    unfold X_l06_GeomOnce_3_0
    exact ends_some ⟨.inl rfl, _, rfl, rfl⟩
  · have g0 : decide ((j : Int) < (N : Int)) = true := decide_eq_true (by omega)
    have i1 := ix_il 1 N j (by omega)
    have q1 := ld_seen (P := P) (S := S) (n := N) (d := j) (seen_get P S N j (by omega)) c0 []
    rw [hP j (by omega)] at q1
    have e3 : IntKind.i64.wrap ((j : Int) + 1) = ((j + 1 : Nat) : Int) := by rw [wsmall (by omega) (by omega)]; omega
    have stq := (And.intro (l1) (And.intro (g0) (And.intro (i1) (And.intro (q1) (e3)))))
    repeat first
      | ((with_reducible apply ends_bind); case h => first | (simp only [stp, stq]; first | done | rfl) | rfl)
      | ((with_reducible apply ends_t); case h => first | rfl | (simp only [stp, stq]; done))
      | ((with_reducible apply ends_f); case h => first | rfl | (simp only [stp, stq]; done))
    exact ends_some (.inl ⟨rfl, k, by omega, j + 1, _, _, _, _, _, _, _, _, _, _, _, _, _, by first | rfl | (rw [← e3]; rfl), il_keep _ _, by omega⟩)

theorem st_d3g (A B C : List AV) (k g i k' g' i' : Int) : stA Try.prog 41 [A, B, C, p3 k g i] (.bp 3 0) (pV k' g' i') = some (.v undef, [A, B, C, p3 k' g' i']) := st_d3 A B C k g i k' g' i'
theorem st_s2r (A B : List AV) (s l g x s' l' g' x' : Int) : stA Try.prog 30 [A, B, s4 s l g x] (.bp 2 0) (sV s' l' g' x') = some (.v undef, [A, B, s4 s' l' g' x']) := by kernel_rfl

theorem stage2 {a b c : Nat} (ha : 1 ≤ a ∧ a ≤ 8) (hb : 1 ≤ b ∧ b ≤ 8) (hc : 4 ≤ c ∧ c ≤ 33) {n0 : Nat} (x54 x9 x46 x30 x6 x0 x1 x2 : AV) :
    Ends (X_l06_GeomOnce_0_0 (evFn cx0 ext0 1999) 1999 n0 x54 x9 x46 (.bsl 1 0 (2 + a * (2 + b + c)) 1) (.bp 0 0) x30 x6 x0 x1 x2 [p3 a b c, il (seen (pC b 0) (2 + b + c) (2 + a * (2 + b + c)))]) (RetQ Try.prog [.tmp 6] (.v (.bool true))) := by
  have hS := aS_le ha hb hc
  have hI : 3 * a * b ≤ 192 := by
    have : 3 * a * b ≤ 24 * 8 := Nat.mul_le_mul (by omega) hb.2
    omega
  have hok := ok_n ha hb hc
  have d5 : cf (evFn cx0 ext0 1999) 11 [gV a b c] = _ := Inodes_ev 1996 a b c
  rw [ino_n ha hb hc] at d5
  unfold X_l06_GeomOnce_0_0
  refine ends_loop (fun k s => ∃ (m : Nat) (y54 y9 y46 y30 y6 y0 y1 y2 : AV) (c0 c1 : List AV), s = ⟨[(23, .v (.int .i64 ((m + 1 : Nat) : Int))), (54, y54), (9, y9), (46, y46), (8, .bsl 1 0 (2 + a * (2 + b + c)) 1), (7, .bp 0 0), (30, y30), (6, y6), (0, y0), (1, y1), (2, y2)], [c0, c1]⟩ ∧
    c0 = p3 a b c ∧ c1 = il (seen (pC b m) (2 + b + c) (2 + a * (2 + b + c))) ∧ m + k = 3 * a * b) (3 * a * b) (by omega) ⟨0, _, _, _, _, _, _, _, _, _, _, rfl, rfl, rfl, by omega⟩ ?_
  rintro k s ⟨m, y54, y9, y46, y30, y6, y0, y1, y2, c0, c1, rfl, rfl, rfl, hmk⟩
  refine L_l06_GeomOnce_2_lit ?_
  unfold B_l06_GeomOnce_2
  have hl : ∀ r : Bx, loadA Try.prog 23 (p3 a b c :: r) (.bp 0 0) = some (gV a b c) := fun r => ld_g a b c r
  rcases k with _ | k
  · have g0 : decide (((m + 1 : Nat) : Int) ≤ ((3 * a * b : Nat) : Int)) = false := decide_eq_false (by omega)
    have e : m = 3 * a * b := by omega
    subst e
    have stq := (And.intro (hl) (And.intro (frz_g) (And.intro (d5) (g0))))
    repeat first
      | ((with_reducible apply ends_bind); case h => first | (simp only [stp, stq]; first | done | rfl) | rfl)
      | ((with_reducible apply ends_t); case h => first | rfl | (simp only [stp, stq]; done))
      | ((with_reducible apply ends_f); case h => first | rfl | (simp only [stp, stq]; done))
    refine ends_some (.inr (.inl ⟨4, rfl, X_l06_GeomOnce_2_0_lit ?_⟩))
    refine stage3 (by omega) (by omega) (fun p hp => ?_) _ _ _ _ _ _ _ _ _ _ _ _
    unfold cS
    split
    · rfl
    · rw [pC_end b a _ _ ((Nat.div_lt_iff_lt_mul (by omega)).mpr (by omega)), if_pos rfl]
  · have g0 : decide (((m + 1 : Nat) : Int) ≤ ((3 * a * b : Nat) : Int)) = true := decide_eq_true (by omega)
    have c1 : cf (evFn cx0 ext0 1999) 14 [gV a b c, .v (.int .i64 ((m + 1 : Nat) : Int))] = _ := Inode_ev 1995 a b c ((m + 1 : Nat) : Int) (by omega) (by omega)
    rw [gSlot_n ha hb hc m (by omega)] at c1
    obtain ⟨hq, hr⟩ := ino_q hb m (show m < 3 * a * b by omega)
    have hup := pC_yes b m (hb := by omega)
    have hno := pC_no b m
    have hdm := Nat.div_add_mod m (3 * b)
    generalize m / (3 * b) = q at *
    generalize m % (3 * b) = r at *
    have hpl := pos_lt (b := b) (c := c) q (2 + r / 3) hq (by omega)
    have c2 : cf (evFn cx0 ext0 1999) 22 [gV a b c, .v (.int .i64 ((2 + q * (2 + b + c) + (2 + r / 3) : Nat) : Int))] = _ := Where_ev 1995 a b c _
    rw [gWhere_n ha hb hc q (2 + r / 3) hq (by omega), plc_i b (r / 3) q (by omega)] at c2
    have t1 : ((r : Nat) : Int).tmod 3 = ((r % 3 : Nat) : Int) := by rw [Int.tmod_eq_emod_of_nonneg (by omega)]; omega
    have t2 : IntKind.i64.wrap (((r : Nat) : Int).tdiv 3) = ((r / 3 : Nat) : Int) := by rw [Int.tdiv_eq_ediv_of_nonneg (by omega), wsmall (by omega) (by omega)]; omega
    have hne := ne_p 4 (q : Int) ((r / 3 : Nat) : Int)
    have e3 : IntKind.i64.wrap (((m + 1 : Nat) : Int) + 1) = ((m + 1 + 1 : Nat) : Int) := by rw [wsmall (by omega) (by omega)]; omega
    have cget := seen_get (pC b m) (2 + b + c) (2 + a * (2 + b + c)) _ hpl
    have cst : ∀ hz : r % 3 = 0, (seen (pC b m) (2 + b + c) (2 + a * (2 + b + c))).set (2 + q * (2 + b + c) + (2 + r / 3)) 1 = seen (pC b (m + 1)) (2 + b + c) (2 + a * (2 + b + c)) := fun hz => seen_upd (by omega) fun q' r' _ => hup q' r' hz
    have cz : ∀ hz : r % 3 = 0, pC b m q (2 + r / 3) = false := by
      intro hz
      unfold pC
      rw [Nat.mul_comm] at hdm
      rw [Bool.or_eq_false_iff, Bool.or_eq_false_iff, decide_eq_false_iff_not, decide_eq_false_iff_not, decide_eq_false_iff_not]
      omega
    rw [cS_at (by omega)] at cget
    generalize 2 + q * (2 + b + c) + (2 + r / 3) = d at *
    have i1 := ix_il 1 (2 + a * (2 + b + c)) d hpl
    by_cases hz : r % 3 = 0
    · have z1 : (((r % 3 : Nat) : Int) == 0) = true := by simp [hz]
      rw [cz hz] at cget
      have q1 := fun A r => ld_seen cget A r
      have w1 := fun A r => st_seen (cst hz) hpl A r
      have f1 : (if (false : Bool) = true then (1 : Int) else 0) = 0 := rfl
      have f2 : IntKind.i64.wrap (0 + 1) = 1 := rfl
      have stq := (And.intro (hl) (And.intro (frz_g) (And.intro (d5) (And.intro (g0) (And.intro (c1) (And.intro (c2) (And.intro (al_s) (And.intro (al_p) (And.intro (st_s2r) (And.intro (st_d3g) (And.intro (l4b) (And.intro (fa_s) (And.intro (ld_p3r) (And.intro (t1) (And.intro (t2) (And.intro (b_p3) (And.intro (hne) (And.intro (z1) (And.intro (i1) (And.intro (q1) (And.intro (w1) (And.intro (f1) (And.intro (f2) (e3))))))))))))))))))))))))
      repeat first
        | ((with_reducible apply ends_bind); case h => first | (simp only [stp, stq]; first | done | rfl) | rfl)
        | ((with_reducible apply ends_t); case h => first | rfl | (simp only [stp, stq]; done))
        | ((with_reducible apply ends_f); case h => first | rfl | (simp only [stp, stq]; done))
      exact ends_some (.inl ⟨rfl, k, by omega, m + 1, _, _, _, _, _, _, _, _, _, _, by first | rfl | (rw [← e3]; rfl), rfl, il_keep _ _, by omega⟩)
    · have z1 : (((r % 3 : Nat) : Int) == 0) = false := by simp; omega
      have heq : pC b (m + 1) = pC b m := by
        funext q' r'
        exact hno q' r' hz
      have stq := (And.intro (hl) (And.intro (frz_g) (And.intro (d5) (And.intro (g0) (And.intro (c1) (And.intro (c2) (And.intro (al_s) (And.intro (al_p) (And.intro (st_s2r) (And.intro (st_d3g) (And.intro (l4b) (And.intro (fa_s) (And.intro (ld_p3r) (And.intro (t1) (And.intro (t2) (And.intro (b_p3) (And.intro (hne) (And.intro (z1) (e3)))))))))))))))))))
      repeat first
        | ((with_reducible apply ends_bind); case h => first | (simp only [stp, stq]; first | done | rfl) | rfl)
        | ((with_reducible apply ends_t); case h => first | rfl | (simp only [stp, stq]; done))
        | ((with_reducible apply ends_f); case h => first | rfl | (simp only [stp, stq]; done))
      exact ends_some (.inl ⟨rfl, k, by omega, m + 1, _, _, _, _, _, _, _, _, _, _, by first | rfl | (rw [← e3]; rfl), rfl, by rw [heq]; exact il_keep _ _, by omega⟩)
end Go.Sy
