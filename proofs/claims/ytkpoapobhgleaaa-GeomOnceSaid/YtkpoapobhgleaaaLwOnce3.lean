/-
  Layer 06: the law GeomOnce as the reader reads it.
-/
import Derived.Test.YtkpoapobhgleaaaLwOnce2
namespace Go.Sy
open Go.Proofs

theorem st_e4 (A B C D : List AV) (k g i k' g' i' : Int) : stA Try.prog 41 [A, B, C, D, p3 k g i] (.bp 4 0) (pV k' g' i') = some (.v undef, [A, B, C, D, p3 k' g' i']) := by kernel_rfl
theorem ld_p4r (A B C D : List AV) (k g i : Int) (r : Bx) : loadA Try.prog 41 (A :: B :: C :: D :: p3 k g i :: r) (.bp 4 0) = some (pV k g i) := by kernel_rfl

theorem stage1 {a b c : Nat} (ha : 1 ≤ a ∧ a ≤ 8) (hb : 1 ≤ b ∧ b ≤ 8) (hc : 4 ≤ c ∧ c ≤ 33) {n0 : Nat} (x46 x30 x6 x0 x1 x2 : AV) (s : S)
    (hs : s = ⟨[(9, .v (.int .i64 0)), (46, x46), (8, .bsl 1 0 (2 + a * (2 + b + c)) 1), (7, .bp 0 0), (30, x30), (6, x6), (0, x0), (1, x1), (2, x2)], [p3 a b c, il (seen (pA b 0) (2 + b + c) (2 + a * (2 + b + c)))]⟩) :
    Ends (exitA (iter s (L_l06_GeomOnce_0 (evFn cx0 ext0 1999) 1999 n0) 1999 s) (K_l06_GeomOnce_0 (evFn cx0 ext0 1999) 1999 n0) (X_l06_GeomOnce_0 (evFn cx0 ext0 1999) 1999 n0)) (RetQ Try.prog [.tmp 6] (.v (.bool true))) := by
  subst hs
  have hS := aS_le ha hb hc
  have hl : ∀ r : Bx, loadA Try.prog 23 (p3 a b c :: r) (.bp 0 0) = some (gV a b c) := fun r => ld_g a b c r
  have hi0 : ∀ r : Bx, loadA Try.prog 3 (p3 a b c :: r) (.bp 0 0) = some (.v (.int .i64 a)) := fun r => by kernel_rfl
  have hi2 : ∀ r : Bx, loadA Try.prog 3 (p3 a b c :: r) (.bp 0 2) = some (.v (.int .i64 c)) := fun r => by kernel_rfl
  have f2 : IntKind.i64.wrap (0 + 1) = 1 := rfl
  have f1 : (if (false : Bool) = true then (1 : Int) else 0) = 0 := rfl
  refine ends_loop (fun k s => ∃ (g : Nat) (y46 y30 y6 y0 y1 y2 : AV) (c0 c1 : List AV), s = ⟨[(9, .v (.int .i64 g)), (46, y46), (8, .bsl 1 0 (2 + a * (2 + b + c)) 1), (7, .bp 0 0), (30, y30), (6, y6), (0, y0), (1, y1), (2, y2)], [c0, c1]⟩ ∧
    c0 = p3 a b c ∧ c1 = il (seen (pA b g) (2 + b + c) (2 + a * (2 + b + c))) ∧ g + k = a) a (by omega) ⟨0, _, _, _, _, _, _, _, _, rfl, rfl, rfl, by omega⟩ ?_
  rintro k s ⟨g, y46, y30, y6, y0, y1, y2, c0, c1, rfl, rfl, rfl, hgk⟩
  refine L_l06_GeomOnce_0_lit ?_
  unfold B_l06_GeomOnce_0
  rcases k with _ | k
  · have g0 : decide ((g : Int) < (a : Int)) = false := decide_eq_false (by omega)
    have e : g = a := by omega
    subst e
    have stq := (And.intro (fa_g) (And.intro (hi0) (g0)))
    repeat first
      | ((with_reducible apply ends_bind); case h => first | (simp only [stp, stq]; first | done | rfl) | rfl)
      | ((with_reducible apply ends_t); case h => first | rfl | (simp only [stp, stq]; done))
      | ((with_reducible apply ends_f); case h => first | rfl | (simp only [stp, stq]; done))
    refine ends_some (.inr (.inl ⟨0, rfl, X_l06_GeomOnce_0_0_lit ?_⟩))
    rw [seen_congr (P := pA b g) (P' := pC b 0) (a := g) (by omega) fun q r hq _ => pC_start b g q r hq]
    exact stage2 ha hb hc _ _ _ _ _ _ _ _
  · have hg : g < a := by omega
    have g0 : decide ((g : Int) < (a : Int)) = true := decide_eq_true (by omega)
    have c1 : cf (evFn cx0 ext0 1999) 16 [gV a b c, .v (.int .i64 g)] = some (.tup [.v (.int .i64 ((2 + g * (2 + b + c) + 0 : Nat) : Int)), .v (.int .i64 0)]) := (Head_ev 1995 a b c g).trans (congrArg some (gIn_n ha hb hc g 0 hg))
    have c2 : cf (evFn cx0 ext0 1999) 18 [gV a b c, .v (.int .i64 g)] = some (.tup [.v (.int .i64 ((2 + g * (2 + b + c) + 1 : Nat) : Int)), .v (.int .i64 0)]) := (Maps_ev 1995 a b c g).trans (congrArg some (gIn_n ha hb hc g 1 hg))
    have c3 : cf (evFn cx0 ext0 1999) 22 [gV a b c, .v (.int .i64 ((2 + g * (2 + b + c) + 0 : Nat) : Int))] = some (.tup [pV 2 g 0, .v (.int .i64 0)]) := (Where_ev 1995 a b c _).trans (congrArg some ((gWhere_n ha hb hc g 0 hg (by omega)).trans (by rw [plc_0])))
    have c4 : cf (evFn cx0 ext0 1999) 22 [gV a b c, .v (.int .i64 ((2 + g * (2 + b + c) + 1 : Nat) : Int))] = some (.tup [pV 3 g 0, .v (.int .i64 0)]) := (Where_ev 1995 a b c _).trans (congrArg some ((gWhere_n ha hb hc g 1 hg (by omega)).trans (by rw [plc_1])))
    have p0 := pos_lt (b := b) (c := c) g 0 hg (by omega)
    have p1 := pos_lt (b := b) (c := c) g 1 hg (by omega)
    have v0 := seen_get (pA b g) (2 + b + c) (2 + a * (2 + b + c)) _ p0
    rw [cS_at (by omega), show pA b g g 0 = false by simp [pA]] at v0
    have v1 := seen_get (pH b g) (2 + b + c) (2 + a * (2 + b + c)) _ p1
    rw [cS_at (by omega), show pH b g g 1 = false by simp [pH, pA]] at v1
    have u0 : (seen (pA b g) (2 + b + c) (2 + a * (2 + b + c))).set (2 + g * (2 + b + c) + 0) 1 = seen (pH b g) (2 + b + c) (2 + a * (2 + b + c)) := seen_upd (by omega) fun q r _ => pH_of b g q r
    have u1 : (seen (pH b g) (2 + b + c) (2 + a * (2 + b + c))).set (2 + g * (2 + b + c) + 1) 1 = seen (pB b g 0) (2 + b + c) (2 + a * (2 + b + c)) := seen_upd (by omega) fun q r _ => pB0_of b g q r
    generalize 2 + g * (2 + b + c) + 1 = d1 at *
    generalize 2 + g * (2 + b + c) + 0 = d0 at *
    have q0 := fun A r => ld_seen v0 A r
    have q1 := fun A r => ld_seen v1 A r
    have w0 := fun A r => st_seen u0 p0 A r
    have w1 := fun A r => st_seen u1 p1 A r
    have i0 := ix_il 1 (2 + a * (2 + b + c)) d0 p0
    have i1 := ix_il 1 (2 + a * (2 + b + c)) d1 p1
    have n2 := ne_p 2 (g : Int) 0
    have n3 := ne_p 3 (g : Int) 0
    have stq := (And.intro (hl) (And.intro (hi0) (And.intro (fa_g) (And.intro (frz_g) (And.intro (g0) (And.intro (c1) (And.intro (c2) (And.intro (c3) (And.intro (c4) (And.intro (al_p) (And.intro (st_p2) (And.intro (st_d3g) (And.intro (ld_p2r) (And.intro (ld_p3r) (And.intro (b_p2) (And.intro (n2) (And.intro (n3) (And.intro (i0) (And.intro (i1) (And.intro (q0) (And.intro (q1) (And.intro (w0) (And.intro (w1) (And.intro (f1) (f2)))))))))))))))))))))))))
    repeat first
      | ((with_reducible apply ends_bind); case h => first | (simp only [stp, stq]; first | done | rfl) | rfl)
      | ((with_reducible apply ends_t); case h => first | rfl | (simp only [stp, stq]; done))
      | ((with_reducible apply ends_f); case h => first | rfl | (simp only [stp, stq]; done))
    refine ends_loop (fun k s => ∃ (i : Nat) (y90 y16 y14 y12 y10 y54 y46 y30 y6 y0 y1 y2 : AV) (c0 c1 c2 c3 : List AV), s = ⟨[(18, .v (.int .i64 i)), (90, y90), (16, y16), (14, y14), (12, y12), (10, y10), (54, y54), (9, .v (.int .i64 g)), (46, y46), (8, .bsl 1 0 (2 + a * (2 + b + c)) 1), (7, .bp 0 0), (30, y30), (6, y6), (0, y0), (1, y1), (2, y2)], [c0, c1, c2, c3]⟩ ∧
      c0 = p3 a b c ∧ c1 = il (seen (pB b g i) (2 + b + c) (2 + a * (2 + b + c))) ∧ i + k = c) c (by omega) ⟨0, _, _, _, _, _, _, _, _, _, _, _, _, _, _, _, _, rfl, rfl, rfl, by omega⟩ ?_
    rintro k' s ⟨i, y90, y16, y14, y12, y10, y54, y46, y30, y6, y0, y1, y2, c0, c1, c2, c3, rfl, rfl, rfl, hik⟩
    refine L_l06_GeomOnce_1_lit ?_
    unfold B_l06_GeomOnce_1
    rcases k' with _ | k'
    · have g1 : decide ((i : Int) < (c : Int)) = false := decide_eq_false (by omega)
      have e : i = c := by omega
      subst e
      have e3 : IntKind.i64.wrap ((g : Int) + 1) = ((g + 1 : Nat) : Int) := by rw [wsmall (by omega) (by omega)]; omega
      have stq := (And.intro (fa_g) (And.intro (hi2) (g1)))
      repeat first
        | ((with_reducible apply ends_bind); case h => first | (simp only [stp, stq]; first | done | rfl) | rfl)
        | ((with_reducible apply ends_t); case h => first | rfl | (simp only [stp, stq]; done))
        | ((with_reducible apply ends_f); case h => first | rfl | (simp only [stp, stq]; done))
      refine ends_some (.inr (.inl ⟨2, rfl, X_l06_GeomOnce_1_0_lit ?_⟩))
      unfold X_l06_GeomOnce_1_0
      rw [seen_congr (P := pB b g i) (P' := pA b (g + 1)) (a := a) (by omega) fun q r _ hr => pB_end b i g q r hr]
      have stq := (e3)
      repeat first
        | ((with_reducible apply ends_bind); case h => first | (simp only [stp, stq]; first | done | rfl) | rfl)
        | ((with_reducible apply ends_t); case h => first | rfl | (simp only [stp, stq]; done))
        | ((with_reducible apply ends_f); case h => first | rfl | (simp only [stp, stq]; done))
      exact ends_some (.inl ⟨rfl, k, by omega, g + 1, _, _, _, _, _, _, _, _, by first | rfl | (rw [← e3]; rfl), rfl, il_keep _ _, by omega⟩)
    · have hi : i < c := by omega
      have g1 : decide ((i : Int) < (c : Int)) = true := decide_eq_true (by omega)
      have k1 : cf (evFn cx0 ext0 1999) 20 [gV a b c, .v (.int .i64 g), .v (.int .i64 i)] = some (.tup [.v (.int .i64 ((2 + g * (2 + b + c) + (2 + b + i) : Nat) : Int)), .v (.int .i64 0)]) := (Data_ev 1995 a b c g i).trans (congrArg some (gData_n ha hb hc g i hg hi))
      have k2 : cf (evFn cx0 ext0 1999) 22 [gV a b c, .v (.int .i64 ((2 + g * (2 + b + c) + (2 + b + i) : Nat) : Int))] = some (.tup [pV 0 g i, .v (.int .i64 0)]) := (Where_ev 1995 a b c _).trans (congrArg some ((gWhere_n ha hb hc g (2 + b + i) hg (by omega)).trans (by rw [plc_d])))
      have p2 := pos_lt (b := b) (c := c) g (2 + b + i) hg (by omega)
      have v2 := seen_get (pB b g i) (2 + b + c) (2 + a * (2 + b + c)) _ p2
      rw [cS_at (by omega), show pB b g i g (2 + b + i) = false by simp [pB, pA]; omega] at v2
      have u2 : (seen (pB b g i) (2 + b + c) (2 + a * (2 + b + c))).set (2 + g * (2 + b + c) + (2 + b + i)) 1 = seen (pB b g (i + 1)) (2 + b + c) (2 + a * (2 + b + c)) := seen_upd (by omega) fun q r _ => pBs_of b g i q r
      generalize 2 + g * (2 + b + c) + (2 + b + i) = d2 at *
      have q2 := fun A r => ld_seen v2 A r
      have w2 := fun A r => st_seen u2 p2 A r
      have i2 := ix_il 1 (2 + a * (2 + b + c)) d2 p2
      have n4 := ne_p 0 (g : Int) (i : Int)
      have e3 : IntKind.i64.wrap ((i : Int) + 1) = ((i + 1 : Nat) : Int) := by rw [wsmall (by omega) (by omega)]; omega
      have stq := (And.intro (hl) (And.intro (hi2) (And.intro (fa_g) (And.intro (frz_g) (And.intro (g1) (And.intro (k1) (And.intro (k2) (And.intro (al_p) (And.intro (st_e4) (And.intro (ld_p4r) (And.intro (b_p3) (And.intro (n4) (And.intro (i2) (And.intro (q2) (And.intro (w2) (And.intro (f1) (And.intro (f2) (e3))))))))))))))))))
      repeat first
        | ((with_reducible apply ends_bind); case h => first | (simp only [stp, stq]; first | done | rfl) | rfl)
        | ((with_reducible apply ends_t); case h => first | rfl | (simp only [stp, stq]; done))
        | ((with_reducible apply ends_f); case h => first | rfl | (simp only [stp, stq]; done))
      exact ends_some (.inl ⟨rfl, k', by omega, i + 1, _, _, _, _, _, _, _, _, _, _, _, _, _, _, _, _, by first | rfl | (rw [← e3]; rfl), rfl, il_keep _ _, by omega⟩)
end Go.Sy
