/-
  The law SuperTwice as the reader reads it.
-/
import Derived.Test.YtdcngbkcemaklaaLwSup3
import Derived.Test.YtdcngbkcemaklaaLwSup
namespace Go.Sy
open Go.Proofs Num Crc Seal

theorem zs_bl (n : Nat) : zerosA Try.prog 32 n = some (u8l (List.replicate (n * 64) 0)) := by
  have h1 : szA Try.prog 32 = some 64 := el_bl.2.2
  unfold zerosA
  rw [zc_bl]
  simp only [Option.bind_some, h1]
  rw [if_pos (by rw [u8l_len, List.length_replicate])]
  simp only [u8l, List.map_replicate, List.flatten_replicate_replicate]
theorem mk_bl (bx : Bx) (n : Nat) (h : n ≤ 2000) : makeSliceA Try.prog bx 39 (.v (.int .i64 n)) (.v (.int .i64 n)) = some (.bsl bx.length 0 n 64, bx ++ [u8l (List.replicate (n * 64) 0)]) := by
  unfold makeSliceA
  simp only [el_bl.1, true_and]
  rw [if_pos (by omega)]
  simp only [el_bl.2.1, el_bl.2.2, by_bl, Option.bind_some, Int.toNat_natCast, zs_bl]
  rw [if_pos ⟨by simp only [Int.reducePow]; omega, by simp only [Int.reducePow]; omega, by omega⟩]
  rfl
theorem ln_bb (c n e : Nat) : lenA Try.prog 39 (.bsl c 0 n e) = some (.v (.int .i64 n)) := by kernel_rfl
theorem wd_sb (a b c : Nat) (ha : a < 65536) (hb : b < 65536) (hc : c < 65536) : wd (sb a b c) 0 = a ∧ wd (sb a b c) 1 = b ∧ wd (sb a b c) 2 = c :=
  ⟨(show le (p16 a) = a from le_p16 a ha), (show le (p16 b) = b from le_p16 b hb), (show le (p16 c) = c from le_p16 c hc)⟩
theorem fmt_hit (a b c : Int) (h : gOk a b c) (n : Nat) (hn : gTot a b c = n) :
    let x := blk 1 1 (sb a.toNat b.toNat c.toNat)
    x.length = 64 ∧ hitS x n ∧ w0 x = a ∧ w1 x = b ∧ w2 x = c := by
  intro x
  have hl := sb_len a.toNat b.toNat c.toNat
  have hg := h
  unfold gOk at hg
  obtain ⟨h1, h2, _, h4⟩ := blk_parts 1 1 (sb a.toNat b.toNat c.toNat) hl (by decide) (by omega)
  obtain ⟨g1, g2, g3⟩ := wd_sb a.toNat b.toNat c.toNat (by omega) (by omega) (by omega)
  have e0 : w0 x = a := by show ((wd (ld x) 0 : Nat) : Int) = a; rw [h1, g1]; omega
  have e1 : w1 x = b := by show ((wd (ld x) 1 : Nat) : Int) = b; rw [h1, g2]; omega
  have e2 : w2 x = c := by show ((wd (ld x) 2 : Nat) : Int) = c; rw [h1, g3]; omega
  refine ⟨blk_len _ _ _ hl, ⟨⟨by rw [h2]; rfl, h4⟩, ⟨?_, ?_⟩, by rw [e0, e1, e2]; exact hn⟩, e0, e1, e2⟩
  · show gOk (w0 x) (w1 x) (w2 x)
    rw [e0, e1, e2]
    exact h
  · rw [h1, g1, g2, g3]
theorem fnd_hit {b : List UInt8} {n i : Nat} (hn : 2 ≤ n) (hi : i < 2) (h : hitS (bk b i) n) : ∃ j, fnd b n = some j := by
  unfold fnd
  rw [if_pos hn]
  by_cases h0 : hitS (bk b 0) n
  · exact ⟨0, by rw [if_pos h0]⟩
  · rw [if_neg h0]
    rcases (show i = 0 ∨ i = 1 by omega) with rfl | rfl
    · exact (h0 h).elim
    · exact ⟨1, by rw [if_pos h]⟩
theorem fnd_non {b : List UInt8} {n : Nat} (hn : 2 ≤ n) (h : fnd b n = none) (i : Nat) (hi : i < 2) : ¬ hitS (bk b i) n := by
  intro hh
  obtain ⟨j, hj⟩ := fnd_hit hn hi hh
  rw [h] at hj
  cases hj
theorem spl_ne {c q : List UInt8} {i j k : Nat} (hc : c.length = k * 64) (hj : j < k) (hi : i < k) (hij : i ≠ j) (hq : q.length = 64) : bk (spl c j q) i = bk c i := by
  rcases Nat.lt_or_gt_of_ne hij with h | h
  · exact spl_lt hc h hj
  · exact spl_gt hc h hi hq
theorem fix_ok (x p : List UInt8) (hp : p.length = 54) : let y := if needS x p then nb x p else x; okS y ∧ ld y = p := by
  intro y
  show okS (if needS x p then nb x p else x) ∧ ld (if needS x p then nb x p else x) = p
  cases h : needS x p
  · rw [if_neg (by simp)]
    exact need_no h
  · rw [if_pos rfl]
    exact nb_ok x p hp
theorem no_prs (b p : List UInt8) (h : ∀ i, i < 2 → okS (bk b i) ∧ ld (bk b i) = p) : prs b p 2 = [] := by
  have hh : ∀ i, i < 2 → needS (bk b i) p = false := by
    intro i hi
    obtain ⟨h1, h2⟩ := h i hi
    unfold needS
    rw [decide_eq_true h1, h2]
    simp
  simp only [prs, hh 0 (by omega), hh 1 (by omega)]
  rfl
theorem lg0' (x y z : Int) (r : Bx) : loadA Try.prog 23 (gC x y z :: r) (.bp 0 0) = some (gV x y z) := by kernel_rfl
theorem mdT' (E : FnA) (bx : Bx) (args : List AV) :
    callA E md_l08_SuperTwice bx 13 args = (cf E 13 (args.map (frz bx true 6))).map (fun r => (r, bx)) ∧
    callA E md_l08_SuperTwice bx 20 args = (cf E 20 (args.map (frz bx true 6))).map (fun r => (r, bx)) ∧
    callA E md_l08_SuperTwice bx 21 args = (cf E 21 (args.map (frz bx true 6))).map (fun r => (r, bx)) ∧
    callA E md_l08_SuperTwice bx 11 args = (cf E 11 (args.map (frz bx true 6))).map (fun r => (r, bx)) ∧
    callA E md_l08_SuperTwice bx 15 args = (cf E 15 (args.map (frz bx true 6))).map (fun r => (r, bx)) :=
  ⟨callA_frozen rfl bx args, callA_frozen rfl bx args, callA_frozen rfl bx args, callA_frozen rfl bx args, callA_frozen rfl bx args⟩

set_option maxRecDepth 100000 in
theorem twice_ev (a b c : Int) (x : UInt8) (q : List UInt8) (hq : q.length = 64) : cf (evFn cx0 ext0 1000) 6 [gV a b c, u8 x, .agg (u8l q)] = some (.v (.bool true)) := by
  have hw := works_at 999 (by omega)
  have mf := mdT' (evFn cx0 ext0 999)
  have c1 : cf (evFn cx0 ext0 999) 20 [gV a b c] = _ := Total_ev 996 a b c
  have lq := lg0'
  unfold cf
  rw [E_l08_SuperTwice]
  refine ends_cf (P := Try.prog) ?_
  unfold F_l08_SuperTwice
  by_cases hg : gOk a b c
  · obtain ⟨n, hn, hn9, hn2⟩ : ∃ n : Nat, gTot a b c = n ∧ 9 ≤ n ∧ n ≤ 2000 := by
      have hg' := hg
      unfold gOk at hg'
      have h1 : gTot a b c = 2 + a * (2 + b + c) := by unfold gTot; rw [if_pos hg]
      have h2 : 1 * (2 + b + c) ≤ a * (2 + b + c) := Int.mul_le_mul_of_nonneg_right (by omega) (by omega)
      have h3 : a * (2 + b + c) ≤ 8 * (2 + b + c) := Int.mul_le_mul_of_nonneg_right (by omega) (by omega)
      exact ⟨(gTot a b c).toNat, by omega, by omega, by omega⟩
    rw [hn] at c1
    obtain ⟨hfl, hfh, hf0, hf1, hf2⟩ := fmt_hit a b c hg n hn
    have c2 := Format_ev (k := 999) (by omega) a b c
    unfold fmtV at c2
    rw [if_pos hg] at c2
    generalize blk 1 1 (sb a.toNat b.toNat c.toNat) = fb at *
    have g0 : decide ((n : Int) < 2) = false := decide_eq_false (by omega)
    have mk := fun A B => mk_bl [A, B] n hn2
    obtain ⟨k, hk, e8⟩ : ∃ k : Nat, k < 2 ∧ IntKind.i64.wrap ((x.toNat : Int).tmod 2) = (k : Int) := ⟨x.toNat % 2, by omega, by rw [show (2 : Int) = ((2 : Nat) : Int) from rfl, tm _ 2 (.inr trivial), wrap64]; omega⟩
    have e9 : IntKind.i64.wrap (1 - (k : Int)) = ((1 - k : Nat) : Int) := by rw [wrap64]; omega
    have ix1 := ix_bb 2 n k .i64 (by omega)
    have ix2 := ix_bb 2 n (1 - k) .i64 (by omega)
    have h0 : (List.replicate (n * 64) (0 : UInt8)).length = n * 64 := List.length_replicate
    generalize List.replicate (n * 64) (0 : UInt8) = d0 at *
    have s1 := fun A B r => st_bb (bx := A :: B :: u8l d0 :: r) (t := 2) rfl h0 (show k < n by omega) hfl
    have h1 := spl_len h0 (show k < n by omega) hfl
    have b1 := spl_at h0 (show k < n by omega) hfl
    generalize spl d0 k fb = d1 at *
    have s2 := fun A B r => st_bb (bx := A :: B :: u8l d1 :: r) (t := 2) rfl h1 (show 1 - k < n by omega) hq
    have h2 := spl_len h1 (show 1 - k < n by omega) hq
    have b2 := spl_at h1 (show 1 - k < n by omega) hq
    have b2' := spl_ne h1 (show 1 - k < n by omega) (show k < n by omega) (by omega) hq
    rw [b1] at b2'
    generalize spl d1 (1 - k) q = d2 at *
    have zq : (List.replicate 64 (0 : UInt8)).length = 64 := rfl
    have s3 := fun A B r => st_bb (bx := A :: B :: u8l d2 :: r) (t := 2) rfl h2 (show k < n by omega) zq
    have h3 := spl_len h2 (show k < n by omega) zq
    have b3 := spl_ne h2 (show k < n by omega) (show 1 - k < n by omega) (by omega) zq
    rw [b2] at b3
    have zb := z_a hB (P := Try.prog)
    generalize spl d2 k (List.replicate 64 0) = d3 at *
    have s4 := fun A B r => st_bb (bx := A :: B :: u8l d3 :: r) (t := 2) rfl h3 (show k < n by omega) hfl
    have h4 := spl_len h3 (show k < n by omega) hfl
    have b4 := spl_at h3 (show k < n by omega) hfl
    generalize spl d3 k fb = d4 at *
    simp only [List.set_cons_succ, List.set_cons_zero] at s1 s2 s3 s4
    have fz2 := fun A B r => frz_bb (bx := A :: B :: u8l d2 :: r) (c := 2) (d := 4) rfl h2
    have fz3 := fun A B r => frz_bb (bx := A :: B :: u8l d3 :: r) (c := 2) (d := 4) rfl h3
    have fz4 := fun A B r => frz_bb (bx := A :: B :: u8l d4 :: r) (c := 2) (d := 4) rfl h4
    have lB := lds hB (P := Try.prog)
    have c3 := Find_ev (k := 999) (by omega) true n d2 h2
    have c4 := Find_ev (k := 999) (by omega) true n d3 h3
    obtain ⟨i2, hi2⟩ := fnd_hit (b := d2) (n := n) (i := k) (by omega) hk (by rw [b2']; exact hfh)
    obtain ⟨i4, hi4⟩ := fnd_hit (b := d4) (n := n) (i := k) (by omega) hk (by rw [b4]; exact hfh)
    rw [show fndV d2 n = .tup [gV (w0 (bk d2 i2)) (w1 (bk d2 i2)) (w2 (bk d2 i2)), .v (.int .i64 i2), .v (.int .i64 0)] by unfold fndV; rw [hi2]] at c3
    have hsame : fnd d3 n = none → w0 (bk d2 i2) = a ∧ w1 (bk d2 i2) = b ∧ w2 (bk d2 i2) = c := by
      intro hno
      have hqn := fnd_non (show 2 ≤ n by omega) hno (1 - k) (by omega)
      rw [b3] at hqn
      obtain ⟨g1, _, g3⟩ := fnd_spec hi2
      have : i2 = k := by
        by_cases e : i2 = k
        · exact e
        · have : i2 = 1 - k := by omega
          rw [this, b2] at g3
          exact (hqn g3).elim
      rw [this, b2']
      exact ⟨hf0, hf1, hf2⟩
    obtain ⟨_, _, hh4⟩ := fnd_spec hi4
    have hp := ld_len (bk_len (b := d4) (i := i4) (n := n) (by have := (fnd_spec hi4).1; omega) h4)
    have hpp := prs_pair d4 _ hp 2
    have hmem := fun j hj hn => prs_mem d4 (ld (bk d4 i4)) j hn 2 hj
    have honl := prs_only d4 (ld (bk d4 i4)) 2
    have cm := fun A B C D => mend_some (k := 999) (by omega) (md := md_l08_SuperTwice) rfl [A, B, u8l d4, C, D] (.bsl 2 0 n 64) true n d4 (fz4 _ _ _) h4 i4 hi4
    have hnext : ∀ d5 : List UInt8, d5.length = n * 64 → (∀ t, t < 2 → bk d5 t = if needS (bk d4 t) (ld (bk d4 i4)) then nb (bk d4 t) (ld (bk d4 i4)) else bk d4 t) → fnd d5 n = some 0 ∧ prs d5 (ld (bk d5 0)) 2 = [] := by
      intro d5 h5 hall
      have hok : ∀ t, t < 2 → okS (bk d5 t) ∧ ld (bk d5 t) = ld (bk d4 i4) := fun t ht => by rw [hall t ht]; exact fix_ok (bk d4 t) _ hp
      have h50 : hitS (bk d5 0) n := by
        obtain ⟨o1, o2⟩ := hok 0 (by omega)
        refine ⟨o1, by rw [o2]; exact hh4.2.1, ?_⟩
        show gTot ((wd (ld (bk d5 0)) 0 : Nat) : Int) ((wd (ld (bk d5 0)) 1 : Nat) : Int) ((wd (ld (bk d5 0)) 2 : Nat) : Int) = _
        rw [o2]
        exact hh4.2.2
      refine ⟨by unfold fnd; rw [if_pos (by omega), if_pos h50], no_prs _ _ fun t ht => ⟨(hok t ht).1, by rw [(hok t ht).2, (hok 0 (by omega)).2]⟩⟩
    generalize ld (bk d4 i4) = p at *
    generalize hl : prs d4 p 2 = l at *
    generalize w0 (bk d2 i2) = u0 at *
    generalize w1 (bk d2 i2) = u1 at *
    generalize w2 (bk d2 i2) = u2 at *
    have z3 : ((0 : Int) != 0) = false := rfl
    have z4 : ((22 : Int) != 0) = true := rfl
    have z5 : ((0 : Int) == 0) = true := rfl
    have fin : ∀ (g3 g4 : List AV) (y73 y14 y56 y11 y9 y8 y29 y23 y6 y5 y3 y0 y1 y2 : AV),
        Ends (exitA (iter ⟨[(17, .v (.int .i64 0)), (16, .v (.int .i64 0)), (15, .mp 5), (73, y73), (14, y14), (56, y56), (11, y11), (9, y9), (8, y8), (29, y29), (7, .bsl 2 0 n 64), (23, y23), (6, y6), (5, y5), (3, y3), (0, y0), (1, y1), (2, y2)], [gC a b c, u8l q, u8l d4, g3, g4, mpE l]⟩
          (L_l08_SuperTwice_0 (evFn cx0 ext0 999) 999 ([] : Bx).length) 999 ⟨[(17, .v (.int .i64 0)), (16, .v (.int .i64 0)), (15, .mp 5), (73, y73), (14, y14), (56, y56), (11, y11), (9, y9), (8, y8), (29, y29), (7, .bsl 2 0 n 64), (23, y23), (6, y6), (5, y5), (3, y3), (0, y0), (1, y1), (2, y2)], [gC a b c, u8l q, u8l d4, g3, g4, mpE l]⟩)
          (K_l08_SuperTwice_0 (evFn cx0 ext0 999) 999 ([] : Bx).length) (X_l08_SuperTwice_0 (evFn cx0 ext0 999) 999 ([] : Bx).length)) (RetQ Try.prog [.tmp 6] (.v (.bool true))) := by
      intro g3 g4 y73 y14 y56 y11 y9 y8 y29 y23 y6 y5 y3 y0 y1 y2
      refine ends_loop (n := 999) (fun d s => ∃ (j : Nat) (y73 y14 y56 y11 y9 y8 y29 y23 y6 y5 y3 y0 y1 y2 : AV) (e0 e1 e2 e3 e4 e5 : List AV) (c' : List UInt8), s = ⟨[(17, .v (.int .i64 j)), (16, .v (.int .i64 0)), (15, .mp 5), (73, y73), (14, y14), (56, y56), (11, y11), (9, y9), (8, y8), (29, y29), (7, .bsl 2 0 n 64), (23, y23), (6, y6), (5, y5), (3, y3), (0, y0), (1, y1), (2, y2)], [e0, e1, e2, e3, e4, e5]⟩ ∧
        e2 = u8l c' ∧ e5 = mpE l ∧ c'.length = n * 64 ∧ (∀ t, j ≤ t → t < 2 → bk c' t = bk d4 t) ∧ (∀ t, t < j → bk c' t = if needS (bk d4 t) p then nb (bk d4 t) p else bk d4 t) ∧ j + d = 2) 2 (by omega) ⟨0, _, _, _, _, _, _, _, _, _, _, _, _, _, _, _, _, _, _, _, _, d4, rfl, rfl, rfl, h4, fun _ _ _ => rfl, fun _ h => by omega, by omega⟩ ?_
      rintro d s ⟨j, y73, y14, y56, y11, y9, y8, y29, y23, y6, y5, y3, y0, y1, y2, e0, e1, e2, e3, e4, e5, c', rfl, rfl, rfl, hc, hun, hdo, hd⟩
      refine L_l08_SuperTwice_0_lit ?_
      unfold B_l08_SuperTwice_0
      have aB := al_a hB (P := Try.prog)
      have sB := sts hB (P := Try.prog)
      by_cases hj : j < 2
      · have g1 : decide ((j : Int) < 2) = true := decide_eq_true (by omega)
        have w3 : IntKind.i64.wrap ((j : Int) + 1) = ((j + 1 : Nat) : Int) := by rw [wrap64]; omega
        have ix := ix_bb 2 n j .i64 (by omega)
        have hdj := hun j (by omega) hj
        cases hne : needS (bk d4 j) p
        · have lk := look_no [e0, e1, u8l c', e3, e4, mpE l] 5 l rfl j (fun e he h => by have := honl e he; rw [h, hne] at this; cases this)
          have stq := (And.intro (g1) (And.intro (lk) (And.intro (aB) (And.intro (sB) (And.intro (zq) (w3))))))
          repeat first
            | ((with_reducible apply ends_bind); case h => first | (simp only [stp, stq]; first | done | rfl) | rfl)
            | ((with_reducible apply ends_t); case h => first | rfl | (simp only [stp, stq]; done))
            | ((with_reducible apply ends_f); case h => first | rfl | (simp only [stp, stq]; done))
          exact ends_some (.inl ⟨rfl, d - 1, by omega, j + 1, _, _, _, _, _, _, _, _, _, _, _, _, _, _, _, _, _, _, _, _, c', by first | rfl | (rw [← w3]; rfl), u8l_keep _ _, mpE_keep _ _, hc, fun t h1 h2 => hun t (by omega) h2, fun t ht => by
            by_cases e : t = j
            · subst e; rw [hdj, hne]; rfl
            · exact hdo t (by omega), by omega⟩)
        · obtain ⟨t, ht⟩ := List.getElem?_of_mem (hmem j hj hne)
          have lk := look_at [e0, e1, u8l c', e3, e4, mpE l] 5 l rfl hpp t _ ht
          have hnl := nb_len (bk d4 j) p hp
          have hnb : (if needS (bk d4 j) p then nb (bk d4 j) p else bk d4 j) = nb (bk d4 j) p := by rw [hne]; rfl
          simp only at lk
          generalize ho : nb (bk d4 j) p = o at lk hnl
          have sb := fun r => st_bb (bx := e0 :: e1 :: u8l c' :: r) (t := 2) rfl hc (show j < n by omega) hnl
          simp only [List.set_cons_succ, List.set_cons_zero] at sb
          have hc2 := spl_len hc (show j < n by omega) hnl
          have hat := spl_at hc (show j < n by omega) hnl
          have hne' := fun i (h : i < n) (h2 : i ≠ j) => spl_ne hc (show j < n by omega) h h2 hnl
          generalize spl c' j o = c2 at *
          have stq := (And.intro (g1) (And.intro (lk) (And.intro (aB) (And.intro (sB) (And.intro (lB) (And.intro (zq) (And.intro (hnl) (And.intro (ix) (And.intro (sb) (w3))))))))))
          repeat first
            | ((with_reducible apply ends_bind); case h => first | (simp only [stp, stq]; first | done | rfl) | rfl)
            | ((with_reducible apply ends_t); case h => first | rfl | (simp only [stp, stq]; done))
            | ((with_reducible apply ends_f); case h => first | rfl | (simp only [stp, stq]; done))
          exact ends_some (.inl ⟨rfl, d - 1, by omega, j + 1, _, _, _, _, _, _, _, _, _, _, _, _, _, _, _, _, _, _, _, _, c2, by first | rfl | (rw [← w3]; rfl), u8l_keep _ _, mpE_keep _ _, hc2, fun t h1 h2 => by rw [hne' t (by omega) (by omega), hun t (by omega) h2], fun t ht => by
            by_cases e : t = j
            · subst e; rw [hat, hnb, ho]
            · rw [hne' t (by omega) e]; exact hdo t (by omega), by omega⟩)
      · have g1 : decide ((j : Int) < 2) = false := decide_eq_false (by omega)
        obtain ⟨hn0, hp0⟩ := hnext c' hc fun t ht => hdo t (by omega)
        have cm2 := mend_some (k := 999) (by omega) (md := md_l08_SuperTwice) rfl [e0, e1, u8l c', e3, e4, mpE l] (.bsl 2 0 n 64) true n c' (frz_bb (c := 2) (d := 4) rfl hc) hc 0 hn0
        rw [hp0] at cm2
        have lm := ln_mp [e0, e1, u8l c', e3, e4, mpE l, mpE []] 6 [] rfl
        have ll : (([] : Prs).length : Int) = 0 := rfl
        rw [ll] at lm
        have stq := (g1)
        repeat first
          | ((with_reducible apply ends_bind); case h => first | (simp only [stp, stq]; first | done | rfl) | rfl)
          | ((with_reducible apply ends_t); case h => first | rfl | (simp only [stp, stq]; done))
          | ((with_reducible apply ends_f); case h => first | rfl | (simp only [stp, stq]; done))
        refine ends_some (.inr (.inl ⟨0, rfl, X_l08_SuperTwice_0_0_lit ?_⟩))
        unfold X_l08_SuperTwice_0_0
        have stq := (And.intro (cm2) (And.intro (z5) (lm)))
        repeat first
          | ((with_reducible apply ends_bind); case h => first | (simp only [stp, stq]; first | done | rfl) | rfl)
          | ((with_reducible apply ends_t); case h => first | rfl | (simp only [stp, stq]; done))
          | ((with_reducible apply ends_f); case h => first | rfl | (simp only [stp, stq]; done))
        exact ends_some ⟨.inl rfl, _, rfl, rfl⟩
    cases hf3 : fnd d3 n with
    | none =>
      obtain ⟨rfl, rfl, rfl⟩ := hsame hf3
      rw [show fndV d3 n = .tup [gV 0 0 0, .v (.int .i64 0), .v (.int .i64 22)] by unfold fndV; rw [hf3]] at c4
      have stq := (And.intro (box_g) (And.intro (box_agg) (And.intro (mf) (And.intro (hw) (And.intro (n_tf') (And.intro (lq) (And.intro (frz_g) (And.intro (c1) (And.intro (mk) (And.intro (ln_bb) (And.intro (g0) (And.intro (cv_8_64) (And.intro (e8) (And.intro (c2) (And.intro (ix1) (And.intro (s1) (And.intro (e9) (And.intro (hq) (And.intro (lB) (And.intro (ix2) (And.intro (s2) (And.intro (fz2) (And.intro (c3) (And.intro (al_g) (And.intro (sg3) (And.intro (z3) (And.intro (zb) (And.intro (s3) (And.intro (fz3) (And.intro (c4) (And.intro (sg4) (And.intro (z4) (And.intro (lg3) (And.intro (ne_gs) (And.intro (s4) (cm))))))))))))))))))))))))))))))))))))
      repeat first
        | ((with_reducible apply ends_bind); case h => first | (simp only [stp, stq]; first | done | rfl) | rfl)
        | ((with_reducible apply ends_t); case h => first | rfl | (simp only [stp, stq]; done))
        | ((with_reducible apply ends_f); case h => first | rfl | (simp only [stp, stq]; done))
      exact fin _ _ _ _ _ _ _ _ _ _ _ _ _ _ _ _
    | some i3 =>
      rw [show fndV d3 n = .tup [gV (w0 (bk d3 i3)) (w1 (bk d3 i3)) (w2 (bk d3 i3)), .v (.int .i64 i3), .v (.int .i64 0)] by unfold fndV; rw [hf3]] at c4
      have stq := (And.intro (box_g) (And.intro (box_agg) (And.intro (mf) (And.intro (hw) (And.intro (n_tf') (And.intro (lq) (And.intro (frz_g) (And.intro (c1) (And.intro (mk) (And.intro (ln_bb) (And.intro (g0) (And.intro (cv_8_64) (And.intro (e8) (And.intro (c2) (And.intro (ix1) (And.intro (s1) (And.intro (e9) (And.intro (hq) (And.intro (lB) (And.intro (ix2) (And.intro (s2) (And.intro (fz2) (And.intro (c3) (And.intro (al_g) (And.intro (sg3) (And.intro (z3) (And.intro (zb) (And.intro (s3) (And.intro (fz3) (And.intro (c4) (And.intro (sg4) (And.intro (s4) (cm)))))))))))))))))))))))))))))))))
      repeat first
        | ((with_reducible apply ends_bind); case h => first | (simp only [stp, stq]; first | done | rfl) | rfl)
        | ((with_reducible apply ends_t); case h => first | rfl | (simp only [stp, stq]; done))
        | ((with_reducible apply ends_f); case h => first | rfl | (simp only [stp, stq]; done))
      exact fin _ _ _ _ _ _ _ _ _ _ _ _ _ _ _ _
  · have ht : gTot a b c = 0 := by unfold gTot; rw [if_neg hg]
    rw [ht] at c1
    have c2 : cf (evFn cx0 ext0 999) 21 [gV a b c] = _ := Check_ev 997 a b c
    rw [show gE a b c = 2 from if_neg hg] at c2
    have mk : ∀ A B, makeSliceA Try.prog [A, B] 39 (.v (.int .i64 0)) (.v (.int .i64 0)) = some (.bsl 2 0 0 64, [A, B, []]) := fun A B => mk_bl [A, B] 0 (by omega)
    have ln0 : lenA Try.prog 39 (.bsl 2 0 0 64) = some (.v (.int .i64 0)) := by kernel_rfl
    have g0 : decide ((0 : Int) < 2) = true := rfl
    have z3 : ((2 : Int) != 0) = true := rfl
    have stq := (And.intro (box_g) (And.intro (box_agg) (And.intro (mf) (And.intro (hw) (And.intro (n_tf') (And.intro (lq) (And.intro (frz_g) (And.intro (c1) (And.intro (mk) (And.intro (ln0) (And.intro (g0) (And.intro (c2) (z3)))))))))))))
    repeat first
      | ((with_reducible apply ends_bind); case h => first | (simp only [stp, stq]; first | done | rfl) | rfl)
      | ((with_reducible apply ends_t); case h => first | rfl | (simp only [stp, stq]; done))
      | ((with_reducible apply ends_f); case h => first | rfl | (simp only [stp, stq]; done))
    exact ends_some ⟨.inl rfl, _, rfl, rfl⟩
end Go.Sy
