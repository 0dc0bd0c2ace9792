/-
  Layer 8: what is to mend, as the document says.
-/
import Derived.Test.YtdcngbkcemaklaaPfSup5
namespace Go.Sy
open Go.Proofs Num Crc Seal

theorem el_ch : isSl Try.prog 46 = true ∧ elA Try.prog 46 = some 51 ∧ szA Try.prog 51 = some 65 := ⟨by kernel_rfl, by kernel_rfl, by kernel_rfl⟩
theorem by_ch : byA Try.prog 51 = some 72 := by kernel_rfl
def zch : List AV := .v (.int .i64 0) :: u8l (List.replicate 64 0)
theorem zc_ch : zcA Try.prog 51 = some zch := by kernel_rfl
theorem pl_ch : plA Try.prog 51 = some [(0, 1), (1, 64)] := by kernel_rfl
theorem zs_ch : zerosA Try.prog 51 1 = some zch := by kernel_rfl
theorem bs0_ch (bx : Bx) : buildSliceA Try.prog bx 46 0 [] = some (.bsl bx.length 0 0 65, bx ++ [[]]) := by kernel_rfl
theorem chg_len (e : Nat × List UInt8) (h : e.2.length = 64) : (chg e).length = 65 := by simp [chg, u8l_len, h]
theorem b_ch (e : Nat × List UInt8) (h : e.2.length = 64) : buildA Try.prog 51 [(0, .v (.int .i64 (e.1 : Int))), (1, .agg (u8l e.2))] = some (.agg (chg e)) := by
  unfold buildA
  simp only [zc_ch, Option.bind_some, pl_ch]
  have h1 : storeL zch 0 [.v (.int .i64 (e.1 : Int))] = .v (.int .i64 (e.1 : Int)) :: u8l (List.replicate 64 0) := rfl
  have h2 : storeL (.v (.int .i64 (e.1 : Int)) :: u8l (List.replicate 64 0)) 1 (u8l e.2) = chg e := by
    rw [storeL_eq _ _ _ (by simp [u8l_len, h])]
    rw [List.drop_of_length_le (by simp [u8l_len, h])]
    simp [chg]
  have hk : (AV.v (.int .i64 (e.1 : Int))).okc = true := rfl
  have hk2 : (AV.agg (u8l e.2)).okc = true := rfl
  show (fillA _ zch [(0, .v (.int .i64 (e.1 : Int))), (1, .agg (u8l e.2))]).map AV.agg = _
  unfold fillA
  simp only [List.getElem?_cons_zero]
  rw [if_pos ⟨hk, rfl, by simp [zch, u8l_len]⟩]
  show (fillA _ (storeL zch 0 [.v (.int .i64 (e.1 : Int))]) [(1, .agg (u8l e.2))]).map AV.agg = _
  rw [h1]
  unfold fillA
  simp only [List.getElem?_cons_succ, List.getElem?_cons_zero]
  rw [if_pos ⟨hk2, by simp [AV.cells, u8l_len, h], by simp [u8l_len]⟩]
  show (fillA _ (storeL (.v (.int .i64 (e.1 : Int)) :: u8l (List.replicate 64 0)) 1 (u8l e.2)) []).map AV.agg = _
  rw [h2]
  rfl
theorem bs_ch (bx : Bx) (e : Nat × List UInt8) (h : e.2.length = 64) : buildSliceA Try.prog bx 46 1 [(0, .agg (chg e))] = some (.bsl bx.length 0 1 65, bx ++ [chg e]) := by
  unfold buildSliceA
  simp only [el_ch.1, if_true, el_ch.2.1, el_ch.2.2, zs_ch, Option.bind_some]
  rw [if_neg (by omega)]
  have hk2 : (AV.agg (chg e)).okc = true := rfl
  have hl := chg_len e h
  have h2 : storeL zch (0 * 65) (chg e) = chg e := by
    rw [storeL_eq _ _ _ (by simp [hl, zch, u8l_len])]
    rw [List.drop_of_length_le (by simp [hl, zch, u8l_len])]
    simp
  unfold fillA
  simp only
  rw [if_pos ⟨hk2, hl, by simp [zch, u8l_len]⟩]
  show (fillA _ (storeL zch (0 * 65) (chg e)) []).map _ = _
  rw [h2]
  rfl
theorem ap_ch (g p q r : List AV) (hg : ∀ f, g.map (AV.keep f) = g) (hp : ∀ f, p.map (AV.keep f) = p) (hq : ∀ f, q.map (AV.keep f) = q) (hr : ∀ f, r.map (AV.keep f) = r) (l : Prs) (hl : ∀ e ∈ l, e.2.length = 64) (hn : l.length < 100) (e : Nat × List UInt8) (he : e.2.length = 64) (N : Nat) (hN : N = l.length) :
    appA Try.prog 0 [[], g, p, flC l, q, r, chg e] 46 (.bsl 3 0 N 65) (.bsl 6 0 1 65) = some (.bsl 3 0 (N + 1) 65, AV.keep (· != 3), [[], g, p, flC (l ++ [e]), q, r, chg e]) := by
  subst hN
  have h := app_g (P := Try.prog) el_ch.1 el_ch.2.1 el_ch.2.2 by_ch zc_ch ⟨by simp [zch, u8l_len], by omega, by omega, by omega⟩ 0 [[], g, p, flC l, q, r, chg e] 3 l.length (flC l) (.bsl 6 0 1 65) 1 (chg e) rfl (by omega) (flC_len l hl) (by omega)
    (by show some (1, ((chg e).drop 0).take (1 * 65)) = _; rw [List.drop_zero, List.take_of_length_le (by rw [chg_len e he]; omega)]) (by rw [chg_len e he]) (by omega)
  rw [h, ← flC_app, flC_keep]
  simp [hg, hp, hq, hr, chg_keep]
theorem gC_keep (f : Nat → Bool) (a b c : Int) : (gC a b c).map (AV.keep f) = gC a b c := rfl
def mdV' (b : List UInt8) (n : Nat) : AV := match fnd b n with
  | some i => .tup [.sl (prs b (ld (bk b i)) 2).length (flC (prs b (ld (bk b i)) 2)) false, .v (.int .i64 0)]
  | none => .tup [.sl 0 [] false, .v (.int .i64 22)]
set_option maxRecDepth 100000 in
theorem rMend_ev {k : Nat} (hk : 520 ≤ k) (f : Bool) (n : Nat) (b : List UInt8) (hb : b.length = n * 64) : cf (evFn cx0 ext0 k) 18 [bll f n b] = some (mdV' b n) := by
  obtain ⟨m, rfl⟩ : ∃ m, k = m + 1 := ⟨k - 1, by omega⟩
  have c1 := rFind_ev (k := m) (by omega) f n b hb
  have fb := fun bx => frz_bll bx 5 n f b
  have z0 : ((0 : Int) != 0) = false := rfl
  have z2 : ((22 : Int) != 0) = true := rfl
  cases hf : fnd b n with
  | none =>
    have hfe : fndV b n = .tup [gV 0 0 0, .v (.int .i64 0), .v (.int .i64 22)] := by unfold fndV; rw [hf]
    rw [hfe] at c1
    unfold mdV'
    rw [hf]
    unfold cf
    rw [E_r08_Mend]
    refine ends_cf (P := Try.prog) ?_
    unfold F_r08_Mend
    have stq := (And.intro (fb) (And.intro (c1) (And.intro (al_g) (And.intro (sg1) (z2)))))
    repeat first
      | ((with_reducible apply ends_bind); case h => first | (simp only [stp, stq]; first | done | rfl) | rfl)
      | ((with_reducible apply ends_t); case h => first | rfl | (simp only [stp, stq]; done))
      | ((with_reducible apply ends_f); case h => first | rfl | (simp only [stp, stq]; done))
    exact ends_some ⟨.inl rfl, _, rfl, rfl⟩
  | some i =>
  obtain ⟨hi2, hn, hh⟩ := fnd_spec hf
  have hfe : fndV b n = .tup [gV (w0 (bk b i)) (w1 (bk b i)) (w2 (bk b i)), .v (.int .i64 i), .v (.int .i64 0)] := by unfold fndV; rw [hf]
  rw [hfe] at c1
  rw [show mdV' b n = .tup [.sl (prs b (ld (bk b i)) 2).length (flC (prs b (ld (bk b i)) 2)) false, .v (.int .i64 0)] by unfold mdV'; rw [hf]]
  have c2 := rSPut_ev (k := m) (by omega) (w0 (bk b i)) (w1 (bk b i)) (w2 (bk b i))
  rw [put_ld hh.2.1] at c2
  have hxi := bk_len (b := b) (i := i) (n := n) (by omega) hb
  have hp := ld_len hxi
  generalize ld (bk b i) = p at *
  generalize w0 (bk b i) = u0 at *
  generalize w1 (bk b i) = u1 at *
  generalize w2 (bk b i) = u2 at *
  have aL := al_a hL (P := Try.prog)
  have aB := al_a hB (P := Try.prog)
  have lL := lds hL (P := Try.prog)
  have lB := lds hB (P := Try.prog)
  have sL := sts hL (P := Try.prog)
  have sB := sts hB (P := Try.prog)
  have zl : (zero 54).length = 54 := rfl
  have zl' : (List.replicate 54 (0 : UInt8)).length = 54 := rfl
  have zl6' : (List.replicate 64 (0 : UInt8)).length = 64 := rfl
  unfold cf
  rw [E_r08_Mend]
  refine ends_cf (P := Try.prog) ?_
  unfold F_r08_Mend
  have stq := (And.intro (fb) (And.intro (c1) (And.intro (al_g) (And.intro (sg1) (And.intro (z0) (And.intro (lg1') (And.intro (frz_g) (And.intro (c2) (And.intro (aL) (And.intro (zl') (And.intro (hp) (And.intro (sL) (bs0_ch)))))))))))))
  repeat first
    | ((with_reducible apply ends_bind); case h => first | (simp only [stp, stq]; first | done | rfl) | rfl)
    | ((with_reducible apply ends_t); case h => first | rfl | (simp only [stp, stq]; done))
    | ((with_reducible apply ends_f); case h => first | rfl | (simp only [stp, stq]; done))
  refine ends_loop (fun d s => ∃ (j N : Nat) (y23 y6 y3 y2 : AV) (d0 d1 d2 d3 : List AV), s = ⟨[(10, .v (.int .i64 j)), (9, .bsl 3 0 N 65), (7, .bp 2 0), (23, y23), (6, y6), (4, .bp 1 0), (3, y3), (2, y2), (0, bll f n b)], [d0, d1, d2, d3]⟩ ∧ d0 = [] ∧ d1 = gC u0 u1 u2 ∧ d2 = u8l p ∧ d3 = flC (prs b p j) ∧ N = (prs b p j).length ∧ j + d = 2) 2 (by omega) ⟨0, 0, _, _, _, _, _, _, _, _, rfl, rfl, rfl, rfl, rfl, rfl, by omega⟩ ?_
  rintro d s ⟨j, N, y23, y6, y3, y2, d0, d1, d2, d3, rfl, rfl, rfl, rfl, rfl, hN, hd⟩
  refine L_r08_Mend_0_lit ?_
  unfold B_r08_Mend_0
  by_cases hj : j < 2
  · have g1 : decide ((j : Int) < 2) = true := decide_eq_true (by omega)
    have i1 := ix_bl f n b hb .i64 j (by omega)
    have l1 := fun bx => ld_bl bx f b j n hb (by omega)
    have hx := bk_len (b := b) (i := j) (n := n) (by omega) hb
    have e3 : IntKind.i64.wrap ((j : Int) + 1) = ((j + 1 : Nat) : Int) := by rw [wrap64]; omega
    have hps : prs b p (j + 1) = prs b p j ++ if needS (bk b j) p then [(j, nb (bk b j) p)] else [] := rfl
    have hpl := prs_len b p j
    have hpi := fun e he => (prs_in b p hp j e he).2
    generalize hX : bk b j = x at *
    have hnl := nb_len x p hp
    have bC := b_ch (j, nb x p) hnl
    have bS := fun bx => bs_ch bx (j, nb x p) hnl
    have c3 := rGet_ev (n := m) (by omega) 1 x hx
    rw [got1] at c3
    have c4 := rNext_ev (n := m) (by omega) 1 x hx p hp
    rw [put1] at c4
    by_cases h1 : okS x
    · rw [if_pos h1] at c3
      have hl := ld_len hx
      have e1 := (eq_a hL (P := Try.prog) hl hp).2
      by_cases h2 : ld x = p
      · have hq : (ld x == p) = true := by simpa using h2
        have hne : needS x p = false := by unfold needS; rw [decide_eq_true h1, hq]; rfl
        rw [hq] at e1
        rw [hne] at hps
        have stq := (And.intro (g1) (And.intro (i1) (And.intro (l1) (And.intro (hx) (And.intro (hl) (And.intro (hp) (And.intro (zl') (And.intro (zl6') (And.intro (frz_agg) (And.intro (c3) (And.intro (aL) (And.intro (sL) (And.intro (lL) (And.intro (z0) (And.intro (e1) (And.intro (n_tf') (e3)))))))))))))))))
        repeat first
          | ((with_reducible apply ends_bind); case h => first | (simp only [stp, stq]; first | done | rfl) | rfl)
          | ((with_reducible apply ends_t); case h => first | rfl | (simp only [stp, stq]; done))
          | ((with_reducible apply ends_f); case h => first | rfl | (simp only [stp, stq]; done))
        exact ends_some (.inl ⟨rfl, d - 1, by omega, j + 1, N, _, _, _, _, _, _, _, _, by first | rfl | (rw [← e3]; rfl), rfl, rfl, u8l_keep _ _, by rw [hps]; simp [flC_keep], by rw [hps]; simp [hN], by omega⟩)
      · have hq : (ld x == p) = false := by simpa using h2
        have hne : needS x p = true := by unfold needS; rw [decide_eq_true h1, hq]; rfl
        rw [hq] at e1
        rw [hne] at hps
        have a1 := ap_ch (gC u0 u1 u2) (u8l p) (u8l (ld x)) (u8l (nb x p)) (fun f => rfl) (fun f => u8l_keep _ _) (fun f => u8l_keep _ _) (fun f => u8l_keep _ _) (prs b p j) hpi (by omega) (j, nb x p) hnl N hN
        have stq := (And.intro (g1) (And.intro (i1) (And.intro (l1) (And.intro (hx) (And.intro (hl) (And.intro (hp) (And.intro (hnl) (And.intro (zl') (And.intro (zl6') (And.intro (frz_agg) (And.intro (c3) (And.intro (aL) (And.intro (sL) (And.intro (lL) (And.intro (z0) (And.intro (e1) (And.intro (n_ft') (And.intro (c4) (And.intro (aB) (And.intro (sB) (And.intro (lB) (And.intro (bC) (And.intro (bS) (And.intro (a1) (e3)))))))))))))))))))))))))
        repeat first
          | ((with_reducible apply ends_bind); case h => first | (simp only [stp, stq]; first | done | rfl) | rfl)
          | ((with_reducible apply ends_t); case h => first | rfl | (simp only [stp, stq]; done))
          | ((with_reducible apply ends_f); case h => first | rfl | (simp only [stp, stq]; done))
        exact ends_some (.inl ⟨rfl, d - 1, by omega, j + 1, N + 1, _, _, _, _, _, _, _, _, by first | rfl | (rw [← e3]; rfl), rfl, rfl, u8l_keep _ _, by rw [hps]; simp [flC_keep], by rw [hps]; simp [hN], by omega⟩)
    · rw [if_neg h1] at c3
      have hne : needS x p = true := by unfold needS; rw [decide_eq_false h1]; rfl
      rw [hne] at hps
      have z1 : ((21 : Int) != 0) = true := rfl
      have a1 := ap_ch (gC u0 u1 u2) (u8l p) (u8l (zero 54)) (u8l (nb x p)) (fun f => rfl) (fun f => u8l_keep _ _) (fun f => u8l_keep _ _) (fun f => u8l_keep _ _) (prs b p j) hpi (by omega) (j, nb x p) hnl N hN
      have stq := (And.intro (g1) (And.intro (i1) (And.intro (l1) (And.intro (hx) (And.intro (hp) (And.intro (hnl) (And.intro (zl) (And.intro (zl') (And.intro (zl6') (And.intro (frz_agg) (And.intro (c3) (And.intro (aL) (And.intro (sL) (And.intro (lL) (And.intro (z1) (And.intro (c4) (And.intro (aB) (And.intro (sB) (And.intro (lB) (And.intro (bC) (And.intro (bS) (And.intro (a1) (e3)))))))))))))))))))))))
      repeat first
        | ((with_reducible apply ends_bind); case h => first | (simp only [stp, stq]; first | done | rfl) | rfl)
        | ((with_reducible apply ends_t); case h => first | rfl | (simp only [stp, stq]; done))
        | ((with_reducible apply ends_f); case h => first | rfl | (simp only [stp, stq]; done))
      exact ends_some (.inl ⟨rfl, d - 1, by omega, j + 1, N + 1, _, _, _, _, _, _, _, _, by first | rfl | (rw [← e3]; rfl), rfl, rfl, u8l_keep _ _, by rw [hps]; simp [flC_keep], by rw [hps]; simp [hN], by omega⟩)
  · have g1 : decide ((j : Int) < 2) = false := decide_eq_false (by omega)
    have hj2 : j = 2 := by omega
    subst hj2
    subst hN
    have hfl := flC_len (prs b p 2) fun e he => (prs_in b p hp 2 e he).2
    have stq := (g1)
    repeat first
      | ((with_reducible apply ends_bind); case h => first | (simp only [stp, stq]; first | done | rfl) | rfl)
      | ((with_reducible apply ends_t); case h => first | rfl | (simp only [stp, stq]; done))
      | ((with_reducible apply ends_f); case h => first | rfl | (simp only [stp, stq]; done))
    refine ends_some (.inr (.inl ⟨0, rfl, X_r08_Mend_0_0_lit (ends_some ⟨.inl rfl, _, rfl, ?_⟩)⟩))
    show AV.tup [AV.sl (prs b p 2).length ((((flC (prs b p 2)).drop 0).take ((prs b p 2).length * 65)).map (frz _ false 4)) false, _] = _
    rw [List.drop_zero, List.take_of_length_le (l := flC (prs b p 2)) (by omega), flC_frz]
    rfl
end Go.Sy
