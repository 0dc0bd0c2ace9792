/-
  The law SuperMends as the reader reads it.
-/
import Derived.Test.YtdcngbkcemaklaaLwSup2
namespace Go.Sy
open Go.Proofs Num Crc Seal

theorem frz_bb {bx : Bx} {c d n : Nat} {b : List UInt8} (h : bx[c]? = some (u8l b)) (hb : b.length = n * 64) : frz bx true (d + 2) (.bsl c 0 n 64) = bll true n b := by
  simp only [frz, h]
  rw [List.drop_zero, List.take_of_length_le (by rw [u8l_len]; omega)]
  show AV.sl n ((u8l b).map (frz bx true (d + 1))) true = _
  rw [u8l_frz]
theorem few_call (k : Nat) (hk : 5 ≤ k) (bx : Bx) (x : AV) (f : Bool) (n : Nat) (b : List UInt8) (hx : frz bx true 6 x = bll f n b) (hb : b.length = n * 64) :
    callA (evFn cx0 ext0 k) md_l08_SuperMends bx 14 [x] = some (.bsl bx.length 0 (fewN n) 64, bx ++ [u8l (b.take (fewN n * 64))]) := by
  rw [callA_boxed (m := fewN n) (e := 64) (off := 0) (b := 1) (bx' := [[], u8l (b.take (fewN n * 64))]) rfl (by rw [List.map_cons, List.map_nil, hx]; exact few_raw hk f n b hb)]
  simp only [List.getElem?_cons_succ, List.getElem?_cons_zero, Option.getD_some, List.drop_zero]
  rw [List.take_of_length_le (by rw [u8l_len, few_len hb]; exact Nat.le_refl _), u8l_bare]
def spl (c : List UInt8) (j : Nat) (q : List UInt8) : List UInt8 := c.take (j * 64) ++ q ++ c.drop (j * 64 + 64)
theorem spl_len {c q : List UInt8} {j k : Nat} (hc : c.length = k * 64) (hj : j < k) (hq : q.length = 64) : (spl c j q).length = k * 64 := by
  unfold spl
  simp only [List.length_append, List.length_take, List.length_drop]
  omega
theorem spl_at {c q : List UInt8} {j k : Nat} (hc : c.length = k * 64) (hj : j < k) (hq : q.length = 64) : bk (spl c j q) j = q := by
  unfold bk spl
  have h1 : (c.take (j * 64)).length = j * 64 := by rw [List.length_take]; omega
  rw [List.append_assoc, List.drop_append_of_le_length (by omega), List.drop_of_length_le (by omega), List.nil_append, List.take_append_of_le_length (by omega), List.take_of_length_le (by omega)]
theorem spl_gt {c q : List UInt8} {i j k : Nat} (hc : c.length = k * 64) (hj : j < i) (hi : i < k) (hq : q.length = 64) : bk (spl c j q) i = bk c i := by
  unfold bk spl
  have h1 : (c.take (j * 64)).length = j * 64 := by rw [List.length_take]; omega
  have h2 : (c.take (j * 64) ++ q).length = j * 64 + 64 := by rw [List.length_append]; omega
  rw [List.drop_append, List.drop_of_length_le (by omega), List.nil_append, List.drop_drop, h2]
  congr 2
  omega
theorem spl_lt {c q : List UInt8} {i j k : Nat} (hc : c.length = k * 64) (hj : i < j) (hi : j < k) : bk (spl c j q) i = bk c i := by
  unfold bk spl
  have h1 : (c.take (j * 64)).length = j * 64 := by rw [List.length_take]; omega
  rw [List.append_assoc, List.drop_append_of_le_length (by omega), List.take_append_of_le_length (by rw [List.length_drop]; omega), List.drop_take, List.take_take]
  congr 1
  omega
theorem ix_bb (c k j : Nat) (q : IntKind) (hj : j < k) : indexAddrA Try.prog 39 (.bsl c 0 k 64) (.v (.int q j)) = some (.bp c (j * 64)) := by
  unfold indexAddrA
  simp only [el_bl.1, if_true, el_bl.2.1, el_bl.2.2, Option.bind_some, idxI]
  rw [if_pos ⟨by omega, by omega⟩]
  simp
theorem ld_bb {bx : Bx} {t k j : Nat} {c : List UInt8} (h : bx[t]? = some (u8l c)) (hc : c.length = k * 64) (hj : j < k) : loadA Try.prog 32 bx (.bp t (j * 64)) = some (.agg (u8l (bk c j))) :=
  ld_ao hB h (by omega)
theorem st_bb {bx : Bx} {t k j : Nat} {c q : List UInt8} (h : bx[t]? = some (u8l c)) (hc : c.length = k * 64) (hj : j < k) (hq : q.length = 64) : stA Try.prog 32 bx (.bp t (j * 64)) (.agg (u8l q)) = some (.v undef, bx.set t (u8l (spl c j q))) := by
  unfold stA storeA
  have h1 : szA Try.prog 32 = some 64 := el_bl.2.2
  simp only [h1, h, Option.bind_some]
  rw [if_pos ⟨rfl, by simp [AV.cells, u8l_len, hq], by rw [u8l_len]; omega⟩]
  show some (AV.v undef, bx.set t (storeL (u8l c) (j * 64) (u8l q))) = _
  rw [storeL_eq _ _ _ (by simp only [u8l_len]; omega), u8l_take, u8l_drop, u8l_app, u8l_app, u8l_len, hq]
  rfl
theorem nxt_lt (x : List UInt8) : nxtT x < 4294967296 := by unfold nxtT; split <;> omega
theorem nb_ok (x p : List UInt8) (hp : p.length = 54) : okS (nb x p) ∧ ld (nb x p) = p := by
  obtain ⟨h1, h2, _, h4⟩ := blk_parts 1 (nxtT x) p hp (by decide) (nxt_lt x)
  exact ⟨⟨by unfold nb; rw [h2]; rfl, h4⟩, h1⟩
theorem prs_mem (b p : List UInt8) (i : Nat) (hn : needS (bk b i) p = true) : ∀ j : Nat, i < j → (i, nb (bk b i) p) ∈ prs b p j
  | 0, h => by omega
  | j + 1, h => by
    rw [prs, List.mem_append]
    by_cases e : i = j
    · subst e
      rw [hn]
      exact .inr (by simp)
    · exact .inl (prs_mem b p i hn j (by omega))
theorem prs_only (b p : List UInt8) : ∀ (j : Nat) (e : Nat × List UInt8), e ∈ prs b p j → needS (bk b e.1) p = true
  | 0, e, h => by simp [prs] at h
  | j + 1, e, h => by
    rw [prs, List.mem_append] at h
    rcases h with h | h
    · exact prs_only b p j e h
    · split at h
      · simp at h; subst h; assumption
      · simp at h
theorem need_no {x p : List UInt8} (h : needS x p = false) : okS x ∧ ld x = p := by
  unfold needS at h
  simp only [Bool.not_eq_false', Bool.and_eq_true, decide_eq_true_eq, beq_iff_eq] at h
  exact h
theorem sg4 (A B C D : List AV) (x y z x' y' z' : Int) (r : Bx) : stA Try.prog 23 (A :: B :: C :: D :: gC x y z :: r) (.bp 4 0) (gV x' y' z') = some (.v undef, A :: B :: C :: D :: gC x' y' z' :: r) := by kernel_rfl
theorem lg4 (A B C D : List AV) (x y z : Int) (r : Bx) : loadA Try.prog 23 (A :: B :: C :: D :: gC x y z :: r) (.bp 4 0) = some (gV x y z) := by kernel_rfl
theorem mdM (E : FnA) (bx : Bx) (args : List AV) :
    callA E md_l08_SuperMends bx 13 args = (cf E 13 (args.map (frz bx true 6))).map (fun r => (r, bx)) ∧
    callA E md_l08_SuperMends bx 15 args = (cf E 15 (args.map (frz bx true 6))).map (fun r => (r, bx)) ∧
    callA E md_l08_SuperMends bx 18 args = (cf E 18 (args.map (frz bx true 6))).map (fun r => (r, bx)) ∧
    callA E md_l08_SuperMends bx 8 args = (cf E 8 (args.map (frz bx true 6))).map (fun r => (r, bx)) ∧
    callA E md_l08_SuperMends bx 19 args = (cf E 19 (args.map (frz bx true 6))).map (fun r => (r, bx)) :=
  ⟨callA_frozen rfl bx args, callA_frozen rfl bx args, callA_frozen rfl bx args, callA_frozen rfl bx args, callA_frozen rfl bx args⟩

set_option maxRecDepth 100000 in
theorem mends_ev (n : Nat) (b : List UInt8) (hb : b.length = n * 64) : cf (evFn cx0 ext0 1000) 5 [bll true n b] = some (.v (.bool true)) := by
  have hw := works_at 999 (by omega)
  have mf := mdM (evFn cx0 ext0 999)
  have f1 := few_call 999 (by omega) [] (bll true n b) true n b (frz_bll [] 5 n true b) hb
  have hb' := few_len hb
  have f2 := fun (bx : Bx) (x : AV) h => few_call 999 (by omega) bx x true (fewN n) _ h hb'
  rw [few_take, fewN_few] at f2
  generalize fewN n = k at *
  generalize b.take (k * 64) = c at *
  have fz0 := fun r => frz_bb (bx := u8l c :: r) (c := 0) (d := 4) rfl hb'
  have fz1 := fun A r => frz_bb (bx := A :: u8l c :: r) (c := 1) (d := 4) rfl hb'
  have fz3 := fun A B C r => frz_bb (bx := A :: B :: C :: u8l c :: r) (c := 3) (d := 4) rfl hb'
  have g1 : callA (evFn cx0 ext0 999) md_l08_SuperMends [u8l c] 14 [.bsl 0 0 k 64] = some (.bsl 1 0 k 64, [u8l c, u8l c]) := f2 [u8l c] _ (fz0 [])
  have c1 := Find_ev (k := 999) (by omega) true k c hb'
  have c3 := rMend_ev (k := 999) (by omega) true k c hb'
  have z2 : ((22 : Int) != 22) = false := rfl
  have z3 : ((0 : Int) != 0) = false := rfl
  have z4 : ((22 : Int) != 0) = true := rfl
  unfold cf
  rw [E_l08_SuperMends]
  refine ends_cf (P := Try.prog) ?_
  unfold F_l08_SuperMends
  cases hf : fnd c k with
  | none =>
    have cm : callA (evFn cx0 ext0 999) md_l08_SuperMends [u8l c, u8l c] 17 [.bsl 1 0 k 64] = some (.tup [.v (.map none), .v (.int .i64 22)], [u8l c, u8l c]) := mend_none (k := 999) (by omega) (md := md_l08_SuperMends) rfl _ _ true k c (fz1 _ _) hb' hf
    rw [show mdV' c k = .tup [.sl 0 [] false, .v (.int .i64 22)] by unfold mdV'; rw [hf]] at c3
    have ln0 : lenA Try.prog 46 (.sl 0 [] false) = some (.v (.int .i64 0)) := by kernel_rfl
    have stq := (And.intro (f1) (And.intro (g1) (And.intro (cm) (And.intro (mf) (And.intro (fz0) (And.intro (c3) (And.intro (z2) (And.intro (z3) (And.intro (z4) (And.intro (ln_m0) (And.intro (ln0) (hw))))))))))))
    repeat first
      | ((with_reducible apply ends_bind); case h => first | (simp only [stp, stq]; first | done | rfl) | rfl)
      | ((with_reducible apply ends_t); case h => first | rfl | (simp only [stp, stq]; done))
      | ((with_reducible apply ends_f); case h => first | rfl | (simp only [stp, stq]; done))
    exact ends_some ⟨.inl rfl, _, rfl, rfl⟩
  | some i =>
    obtain ⟨hi2, hn, hh⟩ := fnd_spec hf
    have cm : callA (evFn cx0 ext0 999) md_l08_SuperMends [u8l c, u8l c] 17 [.bsl 1 0 k 64] = some (.tup [.mp 2, .v (.int .i64 0)], [u8l c, u8l c, mpE (prs c (ld (bk c i)) 2)]) := mend_some (k := 999) (by omega) (md := md_l08_SuperMends) rfl _ _ true k c (fz1 _ _) hb' i hf
    rw [show fndV c k = .tup [gV (w0 (bk c i)) (w1 (bk c i)) (w2 (bk c i)), .v (.int .i64 i), .v (.int .i64 0)] by unfold fndV; rw [hf]] at c1
    rw [show mdV' c k = .tup [.sl (prs c (ld (bk c i)) 2).length (flC (prs c (ld (bk c i)) 2)) false, .v (.int .i64 0)] by unfold mdV'; rw [hf]] at c3
    have hp := ld_len (bk_len (b := c) (i := i) (n := k) (by omega) hb')
    have c4 := rSPut_ev (k := 999) (by omega) (w0 (bk c i)) (w1 (bk c i)) (w2 (bk c i))
    rw [put_ld hh.2.1] at c4
    have hpi := fun e he => (prs_in c _ hp 2 e he).2
    have hpp := prs_pair c _ hp 2
    have hmem := fun j hj hn => prs_mem c (ld (bk c i)) j hn 2 hj
    have honl := prs_only c (ld (bk c i)) 2
    generalize ld (bk c i) = p at *
    generalize prs c p 2 = l at *
    generalize w0 (bk c i) = u0 at *
    generalize w1 (bk c i) = u1 at *
    generalize w2 (bk c i) = u2 at *
    have zl : ((l.length : Int) != (l.length : Int)) = false := by simp
    have lm := fun A B => ln_mp [A, B, mpE l] 2 l rfl
    have ln1 := ln_ch l.length (flC l) false
    have g3 : callA (evFn cx0 ext0 999) md_l08_SuperMends [u8l c, u8l c, mpE l] 14 [.bsl 0 0 k 64] = some (.bsl 3 0 k 64, [u8l c, u8l c, mpE l, u8l c]) := f2 [u8l c, u8l c, mpE l] _ (fz0 _)
    have aL := al_a hL (P := Try.prog)
    have aB := al_a hB (P := Try.prog)
    have lL := lds hL (P := Try.prog)
    have lB := lds hB (P := Try.prog)
    have sL := sts hL (P := Try.prog)
    have sB := sts hB (P := Try.prog)
    have zl' : (List.replicate 54 (0 : UInt8)).length = 54 := rfl
    have zl6' : (List.replicate 64 (0 : UInt8)).length = 64 := rfl
    have stq := (And.intro (f1) (And.intro (g1) (And.intro (cm) (And.intro (mf) (And.intro (fz0) (And.intro (c3) (And.intro (z3) (And.intro (lm) (And.intro (ln1) (And.intro (zl) (And.intro (g3) (And.intro (fz3) (And.intro (c1) (And.intro (al_g) (And.intro (sg4) (And.intro (lg4) (And.intro (frz_g) (And.intro (c4) (And.intro (aL) (And.intro (sL) (And.intro (zl') (hp))))))))))))))))))))))
    repeat first
      | ((with_reducible apply ends_bind); case h => first | (simp only [stp, stq]; first | done | rfl) | rfl)
      | ((with_reducible apply ends_t); case h => first | rfl | (simp only [stp, stq]; done))
      | ((with_reducible apply ends_f); case h => first | rfl | (simp only [stp, stq]; done))
    refine ends_loop (n := 999) (fun d s => ∃ (j : Nat) (y42 y40 y6 y5 y4 y2 z0 : AV) (d0 d1 d2 d3 d4 d5 : List AV) (c' : List UInt8), s = ⟨[(12, .v (.int .i64 j)), (10, .bp 5 0), (7, .bp 4 0), (42, y42), (40, y40), (6, y6), (5, y5), (4, y4), (3, .mp 2), (0, .bsl 0 0 k 64), (2, y2), (0, z0)], [d0, d1, d2, d3, d4, d5]⟩ ∧
      d0 = u8l c' ∧ d2 = mpE l ∧ d5 = u8l p ∧ c'.length = k * 64 ∧ (∀ t, j ≤ t → t < 2 → bk c' t = bk c t) ∧ j + d = 2) 2 (by omega) ⟨0, _, _, _, _, _, _, _, _, _, _, _, _, _, c, rfl, rfl, rfl, rfl, hb', fun _ _ _ => rfl, by omega⟩ ?_
    rintro d s ⟨j, y42, y40, y6, y5, y4, y2, z0, d0, d1, d2, d3, d4, d5, c', rfl, rfl, rfl, rfl, hc, hun, hd⟩
    refine L_l08_SuperMends_0_lit ?_
    unfold B_l08_SuperMends_0
    by_cases hj : j < 2
    · have g1 : decide ((j : Int) < 2) = true := decide_eq_true (by omega)
      have e3 : IntKind.i64.wrap ((j : Int) + 1) = ((j + 1 : Nat) : Int) := by rw [wrap64]; omega
      have ix := ix_bb 0 k j .i64 (by omega)
      have e1 := (eq_a hL (P := Try.prog) hp hp).2
      have e2 : (!(p == p)) = false := by simp
      rw [e2] at e1
      cases hne : needS (bk c j) p
      · have lk := look_no [u8l c', d1, mpE l, d3, d4, u8l p] 2 l rfl j (fun e he h => by have := honl e he; rw [h, hne] at this; cases this)
        have lb := fun r => ld_bb (bx := u8l c' :: r) (t := 0) rfl hc (show j < k by omega)
        rw [hun j (by omega) hj] at lb
        have hx := bk_len (b := c) (i := j) (n := k) (by omega) hb'
        obtain ⟨o1, o2⟩ := need_no hne
        have c5 := rGet_ev (n := 999) (by omega) 1 (bk c j) hx
        rw [got1, if_pos o1, o2] at c5
        have stq := (And.intro (g1) (And.intro (lk) (And.intro (aB) (And.intro (sB) (And.intro (lB) (And.intro (zl6') (And.intro (ix) (And.intro (lb) (And.intro (mf) (And.intro (frz_agg) (And.intro (c5) (And.intro (aL) (And.intro (sL) (And.intro (lL) (And.intro (zl') (And.intro (hp) (And.intro (z3) (And.intro (e1) (e3)))))))))))))))))))
        repeat first
          | ((with_reducible apply ends_bind); case h => first | (simp only [stp, stq]; first | done | rfl) | rfl)
          | ((with_reducible apply ends_t); case h => first | rfl | (simp only [stp, stq]; done))
          | ((with_reducible apply ends_f); case h => first | rfl | (simp only [stp, stq]; done))
        exact ends_some (.inl ⟨rfl, d - 1, by omega, j + 1, _, _, _, _, _, _, _, _, _, _, _, _, _, c', by first | rfl | (rw [← e3]; rfl), u8l_keep _ _, mpE_keep _ _, u8l_keep _ _, hc, fun t h1 h2 => hun t (by omega) h2, by omega⟩)
      · obtain ⟨t, ht⟩ := List.getElem?_of_mem (hmem j hj hne)
        have lk := look_at [u8l c', d1, mpE l, d3, d4, u8l p] 2 l rfl hpp t _ ht
        have hq := nb_len (bk c j) p hp
        obtain ⟨o1, o2⟩ := nb_ok (bk c j) p hp
        simp only at lk
        generalize nb (bk c j) p = q at *
        have sb := fun r => st_bb (bx := u8l c' :: r) (t := 0) rfl hc (show j < k by omega) hq
        simp only [List.set_cons_zero] at sb
        have hc2 := spl_len hc (show j < k by omega) hq
        have lb := fun r => ld_bb (bx := u8l (spl c' j q) :: r) (t := 0) rfl hc2 (show j < k by omega)
        rw [spl_at hc (show j < k by omega) hq] at lb
        have hgt := fun i (h : j < i) (h2 : i < 2) => spl_gt (q := q) hc h (show i < k by omega) hq
        generalize spl c' j q = c2 at *
        have c5 := rGet_ev (n := 999) (by omega) 1 q hq
        rw [got1, if_pos o1, o2] at c5
        have stq := (And.intro (g1) (And.intro (lk) (And.intro (aB) (And.intro (sB) (And.intro (lB) (And.intro (zl6') (And.intro (hq) (And.intro (ix) (And.intro (sb) (And.intro (lb) (And.intro (mf) (And.intro (frz_agg) (And.intro (c5) (And.intro (aL) (And.intro (sL) (And.intro (lL) (And.intro (zl') (And.intro (hp) (And.intro (z3) (And.intro (e1) (e3)))))))))))))))))))))
        repeat first
          | ((with_reducible apply ends_bind); case h => first | (simp only [stp, stq]; first | done | rfl) | rfl)
          | ((with_reducible apply ends_t); case h => first | rfl | (simp only [stp, stq]; done))
          | ((with_reducible apply ends_f); case h => first | rfl | (simp only [stp, stq]; done))
        exact ends_some (.inl ⟨rfl, d - 1, by omega, j + 1, _, _, _, _, _, _, _, _, _, _, _, _, _, c2, by first | rfl | (rw [← e3]; rfl), u8l_keep _ _, mpE_keep _ _, u8l_keep _ _, hc2, fun t h1 h2 => by rw [hgt t (by omega) h2, hun t (by omega) h2], by omega⟩)
    · have g1 : decide ((j : Int) < 2) = false := decide_eq_false (by omega)
      have stq := (g1)
      repeat first
        | ((with_reducible apply ends_bind); case h => first | (simp only [stp, stq]; first | done | rfl) | rfl)
        | ((with_reducible apply ends_t); case h => first | rfl | (simp only [stp, stq]; done))
        | ((with_reducible apply ends_f); case h => first | rfl | (simp only [stp, stq]; done))
      refine ends_some (.inr (.inl ⟨0, rfl, X_l08_SuperMends_0_0_lit ?_⟩))
      unfold X_l08_SuperMends_0_0
      have stq := (And.intro (mf) (hw))
      repeat first
        | ((with_reducible apply ends_bind); case h => first | (simp only [stp, stq]; first | done | rfl) | rfl)
        | ((with_reducible apply ends_t); case h => first | rfl | (simp only [stp, stq]; done))
        | ((with_reducible apply ends_f); case h => first | rfl | (simp only [stp, stq]; done))
      exact ends_some ⟨.inl rfl, _, rfl, rfl⟩
end Go.Sy
