/-
  The law SuperFinds as the reader reads it.
-/
import Derived.Test.YtdcngbkcemaklaaPfSup6
import Derived.Test.YtdcngbkcemaklaaLwSupW
namespace Go.Sy
open Go.Proofs Num Crc Seal

theorem fewN_few (n : Nat) : fewN (fewN n) = fewN n := by unfold fewN; omega
theorem few_take (n : Nat) (b : List UInt8) : (b.take (fewN n * 64)).take (fewN (fewN n) * 64) = b.take (fewN n * 64) := by
  rw [fewN_few, List.take_take]
  congr 1
  omega
theorem ne_g (a b c d e f : Int) : binA Try.prog .neq 23 (gV a b c) (gV d e f) = some (.v (.bool !(a == d && (b == e && (c == f && true))))) := by kernel_rfl
theorem ne_gs (a b c : Int) : binA Try.prog .neq 23 (gV a b c) (gV a b c) = some (.v (.bool false)) := by
  rw [ne_g]
  simp
theorem ln_ch (n : Nat) (l : List AV) (f : Bool) : lenA Try.prog 46 (.sl n l f) = some (.v (.int .i64 n)) := by kernel_rfl
theorem ln_mp (bx : Bx) (c : Nat) (l : Prs) (h : bx[c]? = some (mpE l)) : lenM Try.prog bx (.mp c) = some (.v (.int .i64 l.length)) := by
  unfold lenM
  simp only [h, Option.map_some]
  simp [mpE]
theorem ln_m0 (bx : Bx) : lenM Try.prog bx (.v (.map none)) = some (.v (.int .i64 0)) := rfl
theorem prs_pair (b p : List UInt8) (hp : p.length = 54) : ∀ j : Nat, (prs b p j).Pairwise (fun x y => x.1 ≠ y.1)
  | 0 => .nil
  | j + 1 => by
    rw [prs, List.pairwise_append]
    refine ⟨prs_pair b p hp j, by split <;> simp, fun x hx y hy => ?_⟩
    have := (prs_in b p hp j x hx).1
    split at hy
    · simp at hy; subst hy; simp; omega
    · simp at hy
theorem find_at : ∀ (l : Prs), l.Pairwise (fun x y => x.1 ≠ y.1) → ∀ (j : Nat) (e : Nat × List UInt8), l[j]? = some e → findL .i64 (e.1 : Int) (mpE l) = some (some (.agg (u8l e.2)))
  | [], _, j, e, h => by simp at h
  | a :: l, hp, j, e, h => by
    show findL .i64 (e.1 : Int) (.tup [.v (.int .i64 (a.1 : Int)), .agg (u8l a.2)] :: mpE l) = _
    unfold findL
    rw [if_pos rfl]
    rcases j with _ | j
    · simp at h
      subst h
      simp
    · have h' : l[j]? = some e := by simpa using h
      have hne := (List.pairwise_cons.1 hp).1 e (List.mem_of_getElem? h')
      have : ((e.1 : Int) == (a.1 : Int)) = false := by simp; omega
      rw [this]
      exact find_at l (List.pairwise_cons.1 hp).2 j e h'
theorem find_no (n : Nat) : ∀ (l : Prs), (∀ e ∈ l, e.1 ≠ n) → findL .i64 (n : Int) (mpE l) = some none
  | [], _ => rfl
  | a :: l, h => by
    show findL .i64 (n : Int) (.tup [.v (.int .i64 (a.1 : Int)), .agg (u8l a.2)] :: mpE l) = _
    unfold findL
    rw [if_pos rfl]
    have := h a (by simp)
    have : ((n : Int) == (a.1 : Int)) = false := by simp; omega
    rw [this]
    exact find_no n l fun e he => h e (by simp [he])
theorem look_at (bx : Bx) (c : Nat) (l : Prs) (h : bx[c]? = some (mpE l)) (hp : l.Pairwise (fun x y => x.1 ≠ y.1)) (j : Nat) (e : Nat × List UInt8) (he : l[j]? = some e) :
    lookA Try.prog bx 43 (.mp c) (.v (.int .i64 (e.1 : Int))) true = some (.tup [.agg (u8l e.2), .v (.bool true)]) := by
  unfold lookA
  simp only [mp_t, Option.bind_some, in_i, if_true, h, find_at l hp j e he]
  rfl
theorem zv_bl : zvA Try.prog 32 = some (.agg (u8l (List.replicate 64 0))) := by kernel_rfl
theorem look_no (bx : Bx) (c : Nat) (l : Prs) (h : bx[c]? = some (mpE l)) (n : Nat) (hn : ∀ e ∈ l, e.1 ≠ n) :
    lookA Try.prog bx 43 (.mp c) (.v (.int .i64 (n : Int))) true = some (.tup [.agg (u8l (List.replicate 64 0)), .v (.bool false)]) := by
  unfold lookA
  simp only [mp_t, Option.bind_some, in_i, if_true, h, find_no n l hn, zv_bl, Option.map_some]
  rfl
theorem flC_drop : ∀ (l : Prs), (∀ e ∈ l, e.2.length = 64) → ∀ (j : Nat) (e : Nat × List UInt8), l[j]? = some e → ∃ r, (flC l).drop (j * 65) = .v (.int .i64 (e.1 : Int)) :: (u8l e.2 ++ r)
  | [], _, j, e, h => by simp at h
  | a :: l, hl, j, e, h => by
    rcases j with _ | j
    · simp at h
      subst h
      exact ⟨flC l, rfl⟩
    · have h' : l[j]? = some e := by simpa using h
      obtain ⟨r, hr⟩ := flC_drop l (fun e he => hl e (by simp [he])) j e h'
      refine ⟨r, ?_⟩
      rw [← hr]
      have : (chg a).length = 65 := chg_len a (hl a (by simp))
      unfold flC
      rw [List.flatMap_cons, show (j + 1) * 65 = 65 + j * 65 by omega, ← List.drop_drop]
      congr 1
      rw [List.drop_append_of_le_length (by omega), List.drop_of_length_le (by omega)]
      rfl
theorem ix_ch (l : Prs) (hl : ∀ e ∈ l, e.2.length = 64) (f : Bool) (j : Nat) (e : Nat × List UInt8) (he : l[j]? = some e) :
    ∃ r, indexAddrA Try.prog 46 (.sl l.length (flC l) f) (.v (.int .i64 j)) = some (.ip (.v (.int .i64 (e.1 : Int)) :: (u8l e.2 ++ r)) f) := by
  obtain ⟨r, hr⟩ := flC_drop l hl j e he
  have hj : j < l.length := (List.getElem?_eq_some_iff.1 he).1
  refine ⟨r, ?_⟩
  unfold indexAddrA
  simp only [el_ch.1, if_true, el_ch.2.1, el_ch.2.2, Option.bind_some, idxI]
  rw [if_pos ⟨by omega, by omega⟩]
  simp only [Option.bind_some]
  rw [if_pos (by rw [flC_len l hl]; exact Nat.le_refl _)]
  rw [show 0 + ((j : Int)).toNat * 65 = j * 65 by omega, hr]
theorem fa_ch (x : AV) (r : List AV) (f : Bool) : fieldAddrA Try.prog 51 (.ip (x :: r) f) 0 = some (.ip (x :: r) f) ∧ fieldAddrA Try.prog 51 (.ip (x :: r) f) 1 = some (.ip r f) := ⟨by kernel_rfl, by kernel_rfl⟩
theorem li_ch (bx : Bx) (x : AV) (r : List AV) (f : Bool) : loadA Try.prog 3 bx (.ip (x :: r) f) = some x := by kernel_rfl
theorem lb_ch (bx : Bx) (q : List UInt8) (r : List AV) (f : Bool) (h : q.length = 64) : loadA Try.prog 32 bx (.ip (u8l q ++ r) f) = some (.agg (u8l q)) := by
  have h1 : szA Try.prog 32 = some 64 := el_bl.2.2
  have h2 : agA Try.prog 32 = some true := by kernel_rfl
  unfold loadA partA
  simp only [h1, h2]
  rw [if_pos (by simp [u8l_len, h]), List.drop_zero, List.take_append_of_le_length (by simp [u8l_len, h]), List.take_of_length_le (by simp [u8l_len, h])]

theorem mdF (E : FnA) (bx : Bx) (args : List AV) :
    callA E md_l08_SuperFinds bx 13 args = (cf E 13 (args.map (frz bx true 6))).map (fun r => (r, bx)) ∧
    callA E md_l08_SuperFinds bx 14 args = (cf E 14 (args.map (frz bx true 6))).map (fun r => (r, bx)) ∧
    callA E md_l08_SuperFinds bx 15 args = (cf E 15 (args.map (frz bx true 6))).map (fun r => (r, bx)) ∧
    callA E md_l08_SuperFinds bx 16 args = (cf E 16 (args.map (frz bx true 6))).map (fun r => (r, bx)) ∧
    callA E md_l08_SuperFinds bx 18 args = (cf E 18 (args.map (frz bx true 6))).map (fun r => (r, bx)) :=
  ⟨callA_frozen rfl bx args, callA_frozen rfl bx args, callA_frozen rfl bx args, callA_frozen rfl bx args, callA_frozen rfl bx args⟩
set_option maxRecDepth 100000 in
theorem finds_ev (n : Nat) (b : List UInt8) (hb : b.length = n * 64) : cf (evFn cx0 ext0 1000) 4 [bll true n b] = some (.v (.bool true)) := by
  have hw := works_at 999 (by omega)
  have f1 := few_ev (k := 999) (by omega) true n b hb
  have hb' := few_len hb
  have f2 := few_ev (k := 999) (by omega) false (fewN n) _ hb'
  rw [few_take, fewN_few] at f2
  generalize fewN n = k at *
  generalize b.take (k * 64) = c at *
  have c1 := Find_ev (k := 999) (by omega) false k c hb'
  have c2 := rFind_ev (k := 999) (by omega) false k c hb'
  have c3 := rMend_ev (k := 999) (by omega) false k c hb'
  have fb := fun bx f n b => frz_bll bx 5 n f b
  have z2 : ((22 : Int) != 22) = false := rfl
  have z3 : ((0 : Int) != 0) = false := rfl
  unfold cf
  rw [E_l08_SuperFinds]
  refine ends_cf (P := Try.prog) ?_
  unfold F_l08_SuperFinds
  have mf := mdF (evFn cx0 ext0 999)
  cases hf : fnd c k with
  | none =>
    have cm := fun bx => mend_none (k := 999) (by omega) (md := md_l08_SuperFinds) rfl bx (bll false k c) false k c (frz_bll bx 5 k false c) hb' hf
    rw [show fndV c k = .tup [gV 0 0 0, .v (.int .i64 0), .v (.int .i64 22)] by unfold fndV; rw [hf]] at c1 c2
    rw [show mdV' c k = .tup [.sl 0 [] false, .v (.int .i64 22)] by unfold mdV'; rw [hf]] at c3
    have ln0 : lenA Try.prog 46 (.sl 0 [] false) = some (.v (.int .i64 0)) := by kernel_rfl
    have g0 : decide ((0 : Int) < 0) = false := rfl
    have stq := (And.intro (mf) (And.intro (fb) (And.intro (f1) (And.intro (f2) (And.intro (c1) (And.intro (al_g) (And.intro (sg0) (And.intro (c2) (And.intro (sg1) (And.intro (cm) (And.intro (c3) (And.intro (lg0) (And.intro (lg1') (And.intro (ne_gs) (And.intro (z2) (And.intro (z3) (And.intro (ln_m0) (ln0))))))))))))))))))
    repeat first
      | ((with_reducible apply ends_bind); case h => first | (simp only [stp, stq]; first | done | rfl) | rfl)
      | ((with_reducible apply ends_t); case h => first | rfl | (simp only [stp, stq]; done))
      | ((with_reducible apply ends_f); case h => first | rfl | (simp only [stp, stq]; done))
    refine ends_loop (n := 999) (fun d s => ∃ (y66 y12 y10 y9 y8 y7 y6 y5 y4 y3 y0 y2 z0 : AV) (d0 d1 : List AV), s = ⟨[(13, .v (.int .i64 0)), (66, y66), (12, y12), (11, .sl 0 [] false), (10, y10), (9, y9), (8, y8), (7, y7), (6, y6), (5, y5), (4, y4), (3, y3), (0, y0), (2, y2), (0, z0)], [d0, d1]⟩) 0 (by omega) ⟨_, _, _, _, _, _, _, _, _, _, _, _, _, _, _, rfl⟩ ?_
    rintro d s ⟨y66, y12, y10, y9, y8, y7, y6, y5, y4, y3, y0, y2, z0, d0, d1, rfl⟩
    refine L_l08_SuperFinds_0_lit ?_
    unfold B_l08_SuperFinds_0
    have stq := (And.intro (ln0) (g0))
    repeat first
      | ((with_reducible apply ends_bind); case h => first | (simp only [stp, stq]; first | done | rfl) | rfl)
      | ((with_reducible apply ends_t); case h => first | rfl | (simp only [stp, stq]; done))
      | ((with_reducible apply ends_f); case h => first | rfl | (simp only [stp, stq]; done))
    refine ends_some (.inr (.inl ⟨0, rfl, X_l08_SuperFinds_0_0_lit ?_⟩))
    unfold X_l08_SuperFinds_0_0
    have stq := (And.intro (mf) (hw))
    repeat first
      | ((with_reducible apply ends_bind); case h => first | (simp only [stp, stq]; first | done | rfl) | rfl)
      | ((with_reducible apply ends_t); case h => first | rfl | (simp only [stp, stq]; done))
      | ((with_reducible apply ends_f); case h => first | rfl | (simp only [stp, stq]; done))
    exact ends_some ⟨.inl rfl, _, rfl, rfl⟩
  | some i =>
    obtain ⟨hi2, hn, hh⟩ := fnd_spec hf
    have cm := fun bx => mend_some (k := 999) (by omega) (md := md_l08_SuperFinds) rfl bx (bll false k c) false k c (frz_bll bx 5 k false c) hb' i hf
    rw [show fndV c k = .tup [gV (w0 (bk c i)) (w1 (bk c i)) (w2 (bk c i)), .v (.int .i64 i), .v (.int .i64 0)] by unfold fndV; rw [hf]] at c1 c2
    rw [show mdV' c k = .tup [.sl (prs c (ld (bk c i)) 2).length (flC (prs c (ld (bk c i)) 2)) false, .v (.int .i64 0)] by unfold mdV'; rw [hf]] at c3
    have hp := ld_len (bk_len (b := c) (i := i) (n := k) (by omega) hb')
    have hpi := fun e he => (prs_in c _ hp 2 e he).2
    have hpp := prs_pair c _ hp 2
    have hll := prs_len c (ld (bk c i)) 2
    generalize prs c (ld (bk c i)) 2 = l at *
    generalize w0 (bk c i) = u0 at *
    generalize w1 (bk c i) = u1 at *
    generalize w2 (bk c i) = u2 at *
    have zi : ((i : Int) != (i : Int)) = false := by simp
    have zl : ((l.length : Int) != (l.length : Int)) = false := by simp
    have lm := fun A B => ln_mp [A, B, mpE l] 2 l rfl
    have ln1 := ln_ch l.length (flC l) false
    have stq := (And.intro (mf) (And.intro (fb) (And.intro (f1) (And.intro (f2) (And.intro (c1) (And.intro (al_g) (And.intro (sg0) (And.intro (c2) (And.intro (sg1) (And.intro (cm) (And.intro (c3) (And.intro (lg0) (And.intro (lg1') (And.intro (ne_gs) (And.intro (z3) (And.intro (zi) (And.intro (lm) (And.intro (ln1) (zl)))))))))))))))))))
    repeat first
      | ((with_reducible apply ends_bind); case h => first | (simp only [stp, stq]; first | done | rfl) | rfl)
      | ((with_reducible apply ends_t); case h => first | rfl | (simp only [stp, stq]; done))
      | ((with_reducible apply ends_f); case h => first | rfl | (simp only [stp, stq]; done))
    refine ends_loop (n := 999) (fun d s => ∃ (j : Nat) (y66 y12 y10 y8 y7 y6 y5 y4 y3 y0 y2 z0 : AV) (d0 d1 d2 : List AV), s = ⟨[(13, .v (.int .i64 j)), (66, y66), (12, y12), (11, .sl l.length (flC l) false), (10, y10), (9, .mp 2), (8, y8), (7, y7), (6, y6), (5, y5), (4, y4), (3, y3), (0, y0), (2, y2), (0, z0)], [d0, d1, d2]⟩ ∧ d2 = mpE l ∧ j + d = l.length) l.length (by have := hll; omega) ⟨0, _, _, _, _, _, _, _, _, _, _, _, _, _, _, _, rfl, rfl, by omega⟩ ?_
    rintro d s ⟨j, y66, y12, y10, y8, y7, y6, y5, y4, y3, y0, y2, z0, d0, d1, d2, rfl, rfl, hd⟩
    refine L_l08_SuperFinds_0_lit ?_
    unfold B_l08_SuperFinds_0
    by_cases hj : j < l.length
    · have g1 : decide ((j : Int) < (l.length : Int)) = true := decide_eq_true (by omega)
      have he : l[j]? = some l[j] := List.getElem?_eq_getElem hj
      have hq := hpi l[j] (List.getElem_mem hj)
      generalize l[j] = e at *
      obtain ⟨r, ix⟩ := ix_ch l hpi false j e he
      have lk := look_at [d0, d1, mpE l] 2 l rfl hpp j e he
      have lb := fun bx => lb_ch bx e.2 r false hq
      have aB := al_a hB (P := Try.prog)
      have lB := lds hB (P := Try.prog)
      have sB := sts hB (P := Try.prog)
      have zl6' : (List.replicate 64 (0 : UInt8)).length = 64 := rfl
      have e1 := (eq_a hB (P := Try.prog) hq hq).2
      have e2 : (!(e.2 == e.2)) = false := by simp
      rw [e2] at e1
      have e3 : IntKind.i64.wrap ((j : Int) + 1) = ((j + 1 : Nat) : Int) := by rw [wrap64]; omega
      have stq := (And.intro (ln1) (And.intro (g1) (And.intro (ix) (And.intro (fa_ch) (And.intro (li_ch) (And.intro (lk) (And.intro (aB) (And.intro (sB) (And.intro (lB) (And.intro (zl6') (And.intro (hq) (And.intro (n_tf') (And.intro (lb) (And.intro (e1) (e3)))))))))))))))
      repeat first
        | ((with_reducible apply ends_bind); case h => first | (simp only [stp, stq]; first | done | rfl) | rfl)
        | ((with_reducible apply ends_t); case h => first | rfl | (simp only [stp, stq]; done))
        | ((with_reducible apply ends_f); case h => first | rfl | (simp only [stp, stq]; done))
      exact ends_some (.inl ⟨rfl, d - 1, by omega, j + 1, _, _, _, _, _, _, _, _, _, _, _, _, _, _, _, by first | rfl | (rw [← e3]; rfl), mpE_keep _ _, by omega⟩)
    · have g1 : decide ((j : Int) < (l.length : Int)) = false := decide_eq_false (by omega)
      have stq := (And.intro (ln1) (g1))
      repeat first
        | ((with_reducible apply ends_bind); case h => first | (simp only [stp, stq]; first | done | rfl) | rfl)
        | ((with_reducible apply ends_t); case h => first | rfl | (simp only [stp, stq]; done))
        | ((with_reducible apply ends_f); case h => first | rfl | (simp only [stp, stq]; done))
      refine ends_some (.inr (.inl ⟨0, rfl, X_l08_SuperFinds_0_0_lit ?_⟩))
      unfold X_l08_SuperFinds_0_0
      have stq := (And.intro (mf) (hw))
      repeat first
        | ((with_reducible apply ends_bind); case h => first | (simp only [stp, stq]; first | done | rfl) | rfl)
        | ((with_reducible apply ends_t); case h => first | rfl | (simp only [stp, stq]; done))
        | ((with_reducible apply ends_f); case h => first | rfl | (simp only [stp, stq]; done))
      exact ends_some ⟨.inl rfl, _, rfl, rfl⟩
theorem all_u8 : ∀ (l : List AV), (∀ (i : Nat) (x : AV), l[i]? = some x → Fit (.int .u8) x) → ∃ b : List UInt8, l = u8l b
  | [], _ => ⟨[], rfl⟩
  | x :: l, h => by
    obtain ⟨b, rfl⟩ := all_u8 l fun i y hy => h (i + 1) y (by simpa using hy)
    obtain ⟨y, rfl⟩ := fit_u8 (h 0 x rfl)
    exact ⟨y :: b, rfl⟩
abbrev brow : List Sh := List.replicate 64 (.int .u8)
theorem fit_blks {a : AV} (h : Fit (.sl brow) a) : ∃ x : Nat × List UInt8, x.2.length = x.1 * 64 ∧ a = bll true x.1 x.2 := by
  cases h with
  | sl row n l hn hl h =>
    have hl : l.length = n * 64 := hl
    have h' : ∀ (i : Nat) (x : AV), l[i]? = some x → Fit (.int .u8) x := fun i x hx => h i x (.int .u8) hx (by
      show (List.replicate 64 (Sh.int .u8))[i % 64]? = _
      rw [List.getElem?_replicate, if_pos (Nat.mod_lt _ (by omega))])
    obtain ⟨b, rfl⟩ := all_u8 l h'
    exact ⟨(n, b), by rw [← hl, u8l_len], rfl⟩
end Go.Sy
