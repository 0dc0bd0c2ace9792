/-
  Layer 15: the document's rolls.
-/
import Derived.Test.YtmkdhgigghgieaaPfRollC
namespace Go.Sy
open Go.Proofs Num Crc Seal

theorem foldP_y (t : Nat) (p : Pt) (l : List Pt) (c : List UInt8) : foldP yes t (p :: l) c = if badP p then none else foldP yes t l (layB c t p) := rfl
theorem foldP_filter (sel : Int → Bool) (t : Nat) (l : List Pt) (c : List UInt8) : foldP yes t (l.filter fun p => sel p.id) c = foldP sel t l c := by
  induction l generalizing c with
  | nil => rfl
  | cons p l ih =>
    rw [foldP_cons]
    by_cases h : sel p.id = true
    · rw [if_pos h, List.filter_cons_of_pos (by simpa using h), foldP_y]
      split
      · rfl
      · exact ih _
    · rw [if_neg h, List.filter_cons_of_neg (by simpa using h)]
      exact ih _
theorem rNow_ev {n : Nat} (hn : 480 ≤ n) (g : Bool) (b : List UInt8) (hb : b.length = 64) (L : List Pt) (hL20 : L.length ≤ 400) (hd : ∀ p ∈ L, p.data.length < 2 ^ 32) :
    cf (evFn cx0 ext0 n) 17 [.agg (u8l b), psg g L] = some (overV b (foldP yes (nxtT b) L b)) := by
  obtain ⟨m, rfl⟩ : ∃ m, n = m + 1 := ⟨n - 1, by omega⟩
  have ht : nxtT b < 4294967296 := by
    unfold nxtT
    split <;> omega
  have c1 := rTurn_ev (n := m) (by omega) b hb
  generalize nxtT b = t at *
  have lB := lds hB
  have sB := sts hB
  have aB := al_a hB
  have zl6 : (zero 64).length = 64 := rfl
  have l1 := len_g g L
  unfold cf
  rw [E_r15_Now]
  refine ends_cf (P := Try.prog) ?_
  unfold F_r15_Now
  have stq := (And.intro (box_agg) (And.intro (aB) (And.intro (lB) (And.intro (sB) (And.intro (hb) (zl6))))))
  repeat first
    | ((with_reducible apply ends_bind); case h => first | (simp only [stp, stq]; first | done | rfl) | rfl)
    | ((with_reducible apply ends_t); case h => first | rfl | (simp only [stp, stq]; done))
    | ((with_reducible apply ends_f); case h => first | rfl | (simp only [stp, stq]; done))
  refine ends_loop (fun kk s => ∃ (j : Nat) (y5 y0 : AV) (d0 d1 d2 : List AV) (c : List UInt8), s = ⟨[(7, .v (.int .i64 j)), (6, .bp 2 0), (5, y5), (4, .bp 1 0), (2, .bp 0 0), (0, y0), (1, psg g L)], [d0, d1, d2]⟩ ∧ d0 = u8l b ∧ d1 = u8l (zero 64) ∧ d2 = u8l c ∧ c.length = 64 ∧ foldP yes t L b = foldP yes t (L.drop j) c ∧ j + kk = L.length) L.length (by omega) ⟨0, _, _, _, _, _, b, rfl, rfl, rfl, rfl, hb, by rw [List.drop_zero], by omega⟩ ?_
  rintro kk s ⟨j, y5, y0, d0, d1, d2, c, rfl, rfl, rfl, rfl, hc, hR, hj⟩
  refine L_r15_Now_0_lit ?_
  unfold B_r15_Now_0
  by_cases hx : j < L.length
  · have g0 : decide ((j : Int) < (L.length : Int)) = true := decide_eq_true (by omega)
    have i0 := idx_g g L j hx
    have q0 := fun bx => ld_g bx g L[j] (flatP false (L.drop (j + 1)))
    have e3 : IntKind.i64.wrap ((j : Int) + 1) = ((j + 1 : Nat) : Int) := by rw [wrap64]; omega
    have hfz : ∀ bx, frz bx true 6 (.agg (pt false L[j])) = .agg (pt false L[j]) := fun bx => rfl
    have hu := List.drop_eq_getElem_cons hx
    rw [hu, foldP_y] at hR
    have hdj := hd L[j] (List.getElem_mem hx)
    have c2 := rLay_ev (n := m) (by omega) c hc L[j] hdj t ht
    by_cases hbad : badP L[j]
    · rw [if_pos hbad] at hR c2
      unfold overV at c2
      rw [hR]
      have z : ((2 : Int) != 0) = true := rfl
      have s4 := st_a hB (P := Try.prog) (bx := [u8l b, u8l (zero 64), u8l c, u8l (zero 64)]) (k := 3) (b := zero 64) (c := c) rfl zl6 hc
      simp only [List.set_cons_succ, List.set_cons_zero] at s4
      have s5 := st_a hB (P := Try.prog) (bx := [u8l b, u8l (zero 64), u8l c, u8l c]) (k := 1) (b := zero 64) (c := b) rfl zl6 hb
      simp only [List.set_cons_succ, List.set_cons_zero] at s5
      have stq := (And.intro (l1) (And.intro (g0) (And.intro (aB) (And.intro (i0) (And.intro (q0) (And.intro (lB) (And.intro (hb) (And.intro (hc) (And.intro (zl6) (And.intro (frz_agg) (And.intro (hfz) (And.intro (c1) (And.intro (c2) (And.intro (s4) (And.intro (s5) (z))))))))))))))))
      repeat first
        | ((with_reducible apply ends_bind); case h => first | (simp only [stp, stq]; first | done | rfl) | rfl)
        | ((with_reducible apply ends_t); case h => first | rfl | (simp only [stp, stq]; done))
        | ((with_reducible apply ends_f); case h => first | rfl | (simp only [stp, stq]; done))
      exact ends_some (.inr (.inr ⟨rfl, retq_ct (ld_a hB (b := b) rfl hb) (frz_agg _ _ _ _)⟩))
    · rw [if_neg hbad] at hR c2
      unfold overV at c2
      have hn2 := layB_len c t L[j] hc hbad
      have z : ((0 : Int) != 0) = false := rfl
      generalize layB c t L[j] = d at *
      have s4 := st_a hB (P := Try.prog) (bx := [u8l b, u8l (zero 64), u8l c, u8l (zero 64)]) (k := 3) (b := zero 64) (c := d) rfl zl6 hn2
      simp only [List.set_cons_succ, List.set_cons_zero] at s4
      have s5 := st_a hB (P := Try.prog) (bx := [u8l b, u8l (zero 64), u8l c, u8l d]) (k := 2) (b := c) (c := d) rfl hc hn2
      simp only [List.set_cons_succ, List.set_cons_zero] at s5
      have stq := (And.intro (l1) (And.intro (g0) (And.intro (aB) (And.intro (i0) (And.intro (q0) (And.intro (lB) (And.intro (hb) (And.intro (hc) (And.intro (hn2) (And.intro (zl6) (And.intro (frz_agg) (And.intro (hfz) (And.intro (c1) (And.intro (c2) (And.intro (s4) (And.intro (s5) (And.intro (z) (e3))))))))))))))))))
      repeat first
        | ((with_reducible apply ends_bind); case h => first | (simp only [stp, stq]; first | done | rfl) | rfl)
        | ((with_reducible apply ends_t); case h => first | rfl | (simp only [stp, stq]; done))
        | ((with_reducible apply ends_f); case h => first | rfl | (simp only [stp, stq]; done))
      exact ends_some (.inl ⟨rfl, kk - 1, by omega, j + 1, _, _, _, _, _, d, by first | rfl | (rw [← e3]; rfl), u8l_keep _ _, u8l_keep _ _, u8l_keep _ _, hn2, hR, by omega⟩)
  · have g0 : decide ((j : Int) < (L.length : Int)) = false := decide_eq_false (by omega)
    have he : foldP yes t L b = some c := by
      rw [hR, List.drop_eq_nil_of_le (by omega)]
      rfl
    rw [he]
    have stq := (And.intro (l1) (g0))
    repeat first
      | ((with_reducible apply ends_bind); case h => first | (simp only [stp, stq]; first | done | rfl) | rfl)
      | ((with_reducible apply ends_t); case h => first | rfl | (simp only [stp, stq]; done))
      | ((with_reducible apply ends_f); case h => first | rfl | (simp only [stp, stq]; done))
    refine ends_some (.inr (.inl ⟨0, rfl, X_r15_Now_0_0_lit ?_⟩))
    unfold X_r15_Now_0_0
    have stq := (And.intro (lB) (And.intro (sB) (And.intro (hc) (zl6))))
    repeat first
      | ((with_reducible apply ends_bind); case h => first | (simp only [stp, stq]; first | done | rfl) | rfl)
      | ((with_reducible apply ends_t); case h => first | rfl | (simp only [stp, stq]; done))
      | ((with_reducible apply ends_f); case h => first | rfl | (simp only [stp, stq]; done))
    exact ends_some (retq_ct (ld_a hB (b := c) rfl hc) (frz_agg _ _ _ _))
def so (ids : List Int) (l : List Pt) : List Pt := l.filter fun p => ids.contains p.id
theorem so_snoc (ids : List Int) (l : List Pt) (p : Pt) : so ids (l ++ [p]) = if ids.contains p.id then so ids l ++ [p] else so ids l := by
  unfold so
  rw [List.filter_append]
  by_cases h : ids.contains p.id = true
  · rw [if_pos h, List.filter_cons_of_pos (by rw [h]), List.filter_nil]
  · have h' : ids.contains p.id = false := by simpa using h
    rw [if_neg h, List.filter_cons_of_neg (by rw [h']; decide), List.filter_nil, List.append_nil]
theorem so_len (ids : List Int) (l : List Pt) : (so ids l).length ≤ l.length := List.length_filter_le _ _
theorem frz_ps (A B : List AV) (l : List Pt) : frz [A, B, flatP false l] true 6 (.bsl 2 0 l.length 9) = psg true l := by
  show AV.sl l.length ((((flatP false l).drop 0).take (l.length * 9)).map (frz _ true 5)) true = _
  rw [List.drop_zero, List.take_of_length_le (by rw [flatP_len]; omega), flatP_frz]
theorem rSome_ev {n : Nat} (hn : 500 ≤ n) (g : Bool) (b : List UInt8) (hb : b.length = 64) (L : List Pt) (hL20 : L.length ≤ 400) (hd : ∀ p ∈ L, p.data.length < 2 ^ 32) (ids : List Int) (hi : ids.length + 10 ≤ n) (hi2 : ids.length < 2 ^ 48) :
    cf (evFn cx0 ext0 n) 20 [.agg (u8l b), psl false L, isl g ids] = some (overV b (foldP (fun x => ids.contains x) (nxtT b) L b)) := by
  obtain ⟨m, rfl⟩ : ∃ m, n = m + 1 := ⟨n - 1, by omega⟩
  rw [← foldP_filter]
  have lB := lds hB
  have sB := sts hB
  have aB := al_a hB
  have zl6 : (zero 64).length = 64 := rfl
  have ln := len_p false L
  have fz := fun bx => frz_isl bx g ids
  have b0 := bs_p0
  have hsub : ∀ k, ∀ p ∈ so ids (L.take k), p.data.length < 2 ^ 32 := fun k p hp => hd p (List.mem_of_mem_take (List.mem_filter.1 hp).1)
  unfold cf
  rw [E_r15_Some]
  refine ends_cf (P := Try.prog) ?_
  unfold F_r15_Some
  have stq := (And.intro (box_agg) (And.intro (aB) (b0)))
  repeat first
    | ((with_reducible apply ends_bind); case h => first | (simp only [stp, stq]; first | done | rfl) | rfl)
    | ((with_reducible apply ends_t); case h => first | rfl | (simp only [stp, stq]; done))
    | ((with_reducible apply ends_f); case h => first | rfl | (simp only [stp, stq]; done))
  refine ends_loop (fun d s => ∃ (j N : Nat) (y7 y0 : AV) (d0 d1 d2 : List AV), s = ⟨[(9, .v (.int .i64 j)), (8, .bsl 2 0 N 9), (7, y7), (6, .bp 1 0), (3, .bp 0 0), (0, y0), (1, psl false L), (2, isl g ids)], [d0, d1, d2]⟩ ∧ d0 = u8l b ∧ d1 = u8l (zero 64) ∧ d2 = flatP false (so ids (L.take j)) ∧ N = (so ids (L.take j)).length ∧ j + d = L.length) L.length (by omega) ⟨0, 0, _, _, _, _, _, rfl, rfl, rfl, rfl, rfl, by omega⟩ ?_
  rintro d s ⟨j, N, y7, y0, d0, d1, d2, rfl, rfl, rfl, rfl, hN, hdj⟩
  refine L_r15_Some_0_lit ?_
  unfold B_r15_Some_0
  by_cases hx : j < L.length
  · have g0 : decide ((j : Int) < (L.length : Int)) = true := decide_eq_true (by omega)
    have i0 := idx_p false L j hx
    have q0 := fun bx => ld_ipp bx false L[j] (flatP false (L.drop (j + 1)))
    have f0 := fa_z false L[j] (flatP false (L.drop (j + 1)))
    have l0 := fun bx => ld_z bx false L[j] (flatP false (L.drop (j + 1)))
    have e3 : IntKind.i64.wrap ((j : Int) + 1) = ((j + 1 : Nat) : Int) := by rw [wrap64]; omega
    have c1 := has_ev (n := m) g ids L[j].id (by omega) hi2
    have hs := so_snoc ids (L.take j) L[j]
    rw [← List.take_succ_eq_append_getElem hx] at hs
    have hlj := so_len ids (L.take j)
    rw [List.length_take] at hlj
    by_cases z : ids.contains L[j].id = true
    · rw [if_pos z] at hs
      rw [z] at c1
      have b1 := bs_p1
      have ap := app_pg 0 [u8l b, u8l (zero 64), flatP false (so ids (L.take j)), pt false L[j]] 2 3 (so ids (L.take j)) L[j] 9 rfl rfl (by omega) (.inl rfl) (by omega)
      rw [← hN, ← hs] at ap
      simp only [List.map_cons, List.map_nil, u8l_keep, flatP_keep, pt_keep, List.set_cons_succ, List.set_cons_zero] at ap
      have stq := (And.intro (ln) (And.intro (g0) (And.intro (i0) (And.intro (q0) (And.intro (f0) (And.intro (l0) (And.intro (fz) (And.intro (c1) (And.intro (b1) (And.intro (ap) (e3)))))))))))
      repeat first
        | ((with_reducible apply ends_bind); case h => first | (simp only [stp, stq]; first | done | rfl) | rfl)
        | ((with_reducible apply ends_t); case h => first | rfl | (simp only [stp, stq]; done))
        | ((with_reducible apply ends_f); case h => first | rfl | (simp only [stp, stq]; done))
      refine ends_some (.inl ⟨rfl, d - 1, by omega, j + 1, N + 1, _, _, _, _, _, by first | rfl | (rw [← e3]; rfl), u8l_keep _ _, u8l_keep _ _, flatP_keep _ _ _, by rw [hs, List.length_append, ← hN]; rfl, by omega⟩)
    · rw [if_neg z] at hs
      have z : ids.contains L[j].id = false := by simpa using z
      rw [z] at c1
      have stq := (And.intro (ln) (And.intro (g0) (And.intro (i0) (And.intro (f0) (And.intro (l0) (And.intro (fz) (And.intro (c1) (e3))))))))
      repeat first
        | ((with_reducible apply ends_bind); case h => first | (simp only [stp, stq]; first | done | rfl) | rfl)
        | ((with_reducible apply ends_t); case h => first | rfl | (simp only [stp, stq]; done))
        | ((with_reducible apply ends_f); case h => first | rfl | (simp only [stp, stq]; done))
      exact ends_some (.inl ⟨rfl, d - 1, by omega, j + 1, N, _, _, _, _, _, by first | rfl | (rw [← e3]; rfl), u8l_keep _ _, u8l_keep _ _, by rw [hs]; exact flatP_keep _ _ _, by rw [hs]; exact hN, by omega⟩)
  · have g0 : decide ((j : Int) < (L.length : Int)) = false := decide_eq_false (by omega)
    have hsj := hsub j
    rw [List.take_of_length_le (by omega)] at hN hsj ⊢
    subst hN
    have hll := so_len ids L
    have c2 := rNow_ev (n := m) (by omega) true b hb (so ids L) (by omega) hsj
    have fp := fun A B => frz_ps A B (so ids L)
    have hlen : ∀ d, foldP yes (nxtT b) (so ids L) b = some d → d.length = 64 := fun d h => foldP_len _ _ _ _ _ hb h
    show Ends _ _
    have stq := (And.intro (ln) (g0))
    repeat first
      | ((with_reducible apply ends_bind); case h => first | (simp only [stp, stq]; first | done | rfl) | rfl)
      | ((with_reducible apply ends_t); case h => first | rfl | (simp only [stp, stq]; done))
      | ((with_reducible apply ends_f); case h => first | rfl | (simp only [stp, stq]; done))
    refine ends_some (.inr (.inl ⟨0, rfl, X_r15_Some_0_0_lit ?_⟩))
    unfold X_r15_Some_0_0
    change Ends _ (RetQ Try.prog _ (overV b (foldP yes (nxtT b) (so ids L) b)))
    generalize foldP yes (nxtT b) (so ids L) b = R at *
    rcases R with _ | q
    · unfold overV at c2 ⊢
      have stq := (And.intro (lB) (And.intro (sB) (And.intro (hb) (And.intro (zl6) (And.intro (frz_agg) (And.intro (fp) (c2)))))))
      repeat first
        | ((with_reducible apply ends_bind); case h => first | (simp only [stp, stq]; first | done | rfl) | rfl)
        | ((with_reducible apply ends_t); case h => first | rfl | (simp only [stp, stq]; done))
        | ((with_reducible apply ends_f); case h => first | rfl | (simp only [stp, stq]; done))
      exact ends_some (retq_ct (ld_a hB (b := b) rfl hb) (frz_agg _ _ _ _))
    · have hdl := hlen q rfl
      unfold overV at c2 ⊢
      have stq := (And.intro (lB) (And.intro (sB) (And.intro (hb) (And.intro (hdl) (And.intro (zl6) (And.intro (frz_agg) (And.intro (fp) (c2))))))))
      repeat first
        | ((with_reducible apply ends_bind); case h => first | (simp only [stp, stq]; first | done | rfl) | rfl)
        | ((with_reducible apply ends_t); case h => first | rfl | (simp only [stp, stq]; done))
        | ((with_reducible apply ends_f); case h => first | rfl | (simp only [stp, stq]; done))
      exact ends_some (retq_ct (ld_a hB (b := q) rfl hdl) (frz_agg _ _ _ _))
end Go.Sy
