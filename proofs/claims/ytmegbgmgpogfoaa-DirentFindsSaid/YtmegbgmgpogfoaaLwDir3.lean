/-
  Layer 12's laws DirentPuts and DirentLoads as the reader reads them.
-/
import Derived.Test.YtmegbgmgpogfoaaPfDirR3
namespace Go.Sy
open Go.Proofs Go.Proofs.Ytmegbgmgpogfoaa Num

theorem cut_ok (s : ByteArray) : ∃ k : Nat, min (s.size : Int) 100 = (k : Int) ∧ ∀ bx, sliceA Try.prog bx 9 (.v (.string s)) none (some (.v (.int .i64 k))) none = some (.v (.string (s.extract 0 k))) := by
  refine ⟨min s.size 100, by omega, fun bx => ?_⟩
  have hk : min s.size 100 ≤ s.size := by omega
  generalize min s.size 100 = k at *
  have h : sliceA Try.prog bx 9 (.v (.string s)) none (some (.v (.int .i64 k))) none = (bndA s.size (.v (.int .i64 k))).bind fun h => some (.v (.string (s.extract 0 h))) := by kernel_rfl
  have hb : bndA s.size (.v (.int .i64 k)) = some k := by
    show (if 0 ≤ (k : Int) ∧ (k : Int) ≤ s.size then some (k : Int).toNat else none) = _
    rw [if_pos ⟨by omega, by omega⟩, Int.toNat_natCast]
  rw [h, hb]
  rfl
theorem sfn_e (n : Int) (s s' : ByteArray) (A : List AV) (r : Bx) : stA Try.prog 9 (ent n s :: r) (.bp 0 1) (.v (.string s')) = some (.v undef, ent n s' :: r) ∧ stA Try.prog 9 (A :: ent n s :: r) (.bp 1 1) (.v (.string s')) = some (.v undef, A :: ent n s' :: r) := ⟨by kernel_rfl, by kernel_rfl⟩
theorem eq_self (n : Int) (s : ByteArray) : binA Try.prog .eql 23 (.agg (ent n s)) (.agg (ent n s)) = some (.v (.bool true)) := by
  have h : binA Try.prog .eql 23 (.agg (ent n s)) (.agg (ent n s)) = some (.v (.bool (n == n && (s.toList == s.toList && true)))) := by kernel_rfl
  rw [h]
  simp
set_option maxRecDepth 100000 in
theorem puts_ev (n : Int) (s : ByteArray) : cf (evFn cx0 ext0 1000) 3 [.agg (ent n s)] = some (.v (.bool true)) := by
  have hw := works_at 999 (by omega)
  have ls := len_s s
  obtain ⟨k, e1, s1⟩ := cut_ok s
  have fa := fa_e 0
  have fl0 := fun r => (fl_e n s [] r).2.1
  have sf := fun r => (sfn_e n s (s.extract 0 k) [] r).1
  generalize s.extract 0 k = t at *
  have fl1 := fun r => (fl_e n t [] r).2.1
  have le0 := fun r => (ld_e [] [] [] [] [] n t r).1
  have c1 := Put_ev (k := 999) (by omega) n t
  have c2 := rPut_ev (k := 999) (by omega) n t
  have a13 := al_a h13 (P := Try.prog)
  have k1 : cf (evFn cx0 ext0 999) 11 [.v (.string t)] = _ := check_ev 998 t
  have k2 := rcheck_ev (n := 999) (by omega) t
  have z := ieq (Ytmegbgmgpogfoaa.chk t.data.toList)
  have z0 : ((0 : Int) == 0) = true := rfl
  unfold cf
  rw [E_l12_DirentPuts]
  refine ends_cf (P := Try.prog) ?_
  unfold F_l12_DirentPuts
  unfold putV at c1
  unfold rputV at c2
  obtain ⟨b, e, hb, hc1, hc2⟩ : ∃ (b : List UInt8) (e : Int), b.length = 13 ∧ cf (evFn cx0 ext0 999) 8 [.agg (ent n t)] = some (.tup [.agg (u8l b), .v (.int .i64 e)]) ∧ cf (evFn cx0 ext0 999) 9 [.agg (ent n t)] = some (.tup [byt false b, .v (.int .i64 e)]) := by
    cases ho : okE n t.data.toList
    · rw [ho, if_neg (by simp)] at c1 c2
      exact ⟨_, _, rfl, c1, c2⟩
    · rw [ho, if_pos rfl] at c1 c2
      exact ⟨_, _, eb_len _ _ (okE_len ho), c1, c2⟩
  clear c1 c2
  have s2 := st_a h13 (P := Try.prog) (bx := [ent n t, u8l (zero 13)]) (k := 1) (b := zero 13) (c := b) rfl rfl hb
  simp only [List.set_cons_succ, List.set_cons_zero] at s2
  have q1 := sl_a h13 (P := Try.prog) (bx := [ent n t, u8l b]) (k := 1) (b := b) rfl hb
  have f1 : frz [ent n t, u8l b] true 6 (.bsl 1 0 13 1) = byt true b := frz_b8 true (b := b) (d := 4) rfl hb.symm
  have fb : ∀ bx, frz bx true 6 (byt false b) = byt false b := fun _ => rfl
  have sm : cf (evFn cx0 ext0 999) 10 [byt true b, byt false b] = some (.v (.bool (b == b))) := same_ev 998 b b true false
  have zb := beq_self b
  have ze := ieq e
  have stq := (And.intro (box_e) (And.intro (fa) (And.intro (fl0) (And.intro (ls) (And.intro (e1) (And.intro (s1) (And.intro (sf) (And.intro (le0) (And.intro (frz_e) (And.intro (hc1) (And.intro (a13) (And.intro (s2) (And.intro (hc2) (And.intro (q1) (And.intro (f1) (And.intro (fb) (And.intro (sm) (And.intro (zb) (And.intro (ze) (And.intro (fl1) (And.intro (k1) (And.intro (k2) (And.intro (z) (hw))))))))))))))))))))))))
  repeat first
    | ((with_reducible apply ends_bind); case h => first | (simp only [stp, stq]; first | done | rfl) | rfl)
    | ((with_reducible apply ends_t); case h => first | rfl | (simp only [stp, stq]; done))
    | ((with_reducible apply ends_f); case h => first | rfl | (simp only [stp, stq]; done))
  exact ends_some ⟨.inl rfl, _, rfl, rfl⟩
set_option maxRecDepth 100000 in
theorem loads_ev (p : List UInt8) (hp : p.length = 54) (j : Int) (n : Int) (s : ByteArray) : cf (evFn cx0 ext0 1000) 7 [.agg (u8l p), .v (.int .i64 j), .agg (ent n s)] = some (.v (.bool true)) := by
  have hw := works_at 999 (by omega)
  have ls := len_s s
  obtain ⟨k, e1, s1⟩ := cut_ok s
  have fa := fa_e 1
  have fl0 := fun r => (fl_e n s (u8l p) r).2.2.2
  have sf := fun r => (sfn_e n s (s.extract 0 k) (u8l p) r).2
  generalize s.extract 0 k = t at *
  have le1 := fun r => (ld_e (u8l p) [] [] [] [] n t r).2.1
  have lp := fun r => ld_a hL (P := Try.prog) (bx := u8l p :: r) (k := 0) (b := p) rfl hp
  have c1 := AtA_ev (k := 999) (by omega) p hp j
  have c2 := rAtA_ev (k := 999) (by omega) p hp j
  have c3 := WithA_ev (k := 999) (by omega) p hp j n t
  have c4 := rWith_ev (k := 999) (by omega) p hp j n t
  have c5 := WithoutA_ev (k := 999) (by omega) p hp j
  have c6 := rWithout_ev (k := 999) (by omega) p hp j
  have c7 : cf (evFn cx0 ext0 999) 27 [.v (.int .i64 j)] = _ := Offset_ev 997 j
  obtain ⟨x1, x2, x3, x4, h1⟩ : ∃ (x1 : Int) (x2 : ByteArray) (x3 x4 : Int), atA p j = .tup [.agg (ent x1 x2), .v (.int .i64 x3), .v (.int .i64 x4)] := by
    unfold atA
    split
    · exact ⟨_, _, _, _, rfl⟩
    · exact ⟨0, ⟨#[]⟩, _, _, rfl⟩
  obtain ⟨y1, y2, h2, hy⟩ : ∃ (y1 : List UInt8) (y2 : Int), wthV p j n t.data.toList = .tup [.agg (u8l y1), .v (.int .i64 y2)] ∧ y1.length = 54 := by
    unfold wthV
    split
    · split
      · rename_i hj ho
        exact ⟨_, _, rfl, wdL_len p hp _ (by omega) _ (eb_len _ _ (okE_len ho))⟩
      · exact ⟨_, _, rfl, rfl⟩
    · exact ⟨_, _, rfl, rfl⟩
  obtain ⟨w1, w2, h3, hw1⟩ : ∃ (w1 : List UInt8) (w2 : Int), wthoV p j = .tup [.agg (u8l w1), .v (.int .i64 w2)] ∧ w1.length = 54 := by
    unfold wthoV
    split
    · exact ⟨_, _, rfl, wdL_len p hp _ (by omega) _ rfl⟩
    · exact ⟨_, _, rfl, rfl⟩
  rw [h1] at c1 c2
  rw [h2] at c3 c4
  rw [h3] at c5 c6
  have al := al_e
  have zE0 : zE = ent 0 ⟨#[]⟩ := rfl
  simp only [zE0] at al
  have aL := al_a hL (P := Try.prog)
  have lL := lds hL (P := Try.prog)
  have sL := sts hL (P := Try.prog)
  have zl : (List.replicate 54 (0 : UInt8)).length = 54 := rfl
  have se2 := fun n n' s s' r => (st_e (u8l p) (ent n t) [] [] [] n n' s s' r).2.1
  have se2 : ∀ r, stA Try.prog 23 (u8l p :: ent n t :: ent 0 ⟨#[]⟩ :: r) (.bp 2 0) (.agg (ent x1 x2)) = some (.v undef, u8l p :: ent n t :: ent x1 x2 :: r) := fun r => (st_e (u8l p) (ent n t) [] [] [] 0 x1 ⟨#[]⟩ x2 r).2.1
  have se3 : ∀ r, stA Try.prog 23 (u8l p :: ent n t :: ent x1 x2 :: ent 0 ⟨#[]⟩ :: r) (.bp 3 0) (.agg (ent x1 x2)) = some (.v undef, u8l p :: ent n t :: ent x1 x2 :: ent x1 x2 :: r) := fun r => (st_e (u8l p) (ent n t) (ent x1 x2) [] [] 0 x1 ⟨#[]⟩ x2 r).2.2.1
  have le2 := fun r => (ld_e (u8l p) (ent n t) [] [] [] x1 x2 r).2.2.1
  have le3 := fun r => (ld_e (u8l p) (ent n t) (ent x1 x2) [] [] x1 x2 r).2.2.2.1
  have q1 := eq_self x1 x2
  have q2 := (eq_a hL (P := Try.prog) (a := y1) (b := y1) hy hy).1
  have q3 := (eq_a hL (P := Try.prog) (a := w1) (b := w1) hw1 hw1).1
  have zb := beq_self
  have zi := ieq
  unfold cf
  rw [E_l12_DirentLoads]
  refine ends_cf (P := Try.prog) ?_
  unfold F_l12_DirentLoads
  by_cases h : 0 ≤ j ∧ j < 4
  · rw [if_pos h] at c7
    have g1 : decide (j ≥ 0) = true := decide_eq_true h.1
    have g2 : decide (j ≤ 3) = true := decide_eq_true (by omega)
    have g3 : decide (j < 0) = false := decide_eq_false (by omega)
    have g4 : decide (j > 3) = false := decide_eq_false (by omega)
    have e2 : IntKind.i64.wrap (13 * j) = 13 * j := wsm (by omega) (by omega)
    have e3 : ((13 * j : Int) != 13 * j) = false := by simp
    have z0 : ((0 : Int) != 0) = false := rfl
    have stq := (And.intro (box_agg) (And.intro (box_e) (And.intro (fa) (And.intro (fl0) (And.intro (ls) (And.intro (e1) (And.intro (s1) (And.intro (sf) (And.intro (lp) (And.intro (frz_agg) (And.intro (frz_e) (And.intro (le1) (And.intro (c1) (And.intro (c2) (And.intro (c3) (And.intro (c4) (And.intro (c5) (And.intro (c6) (And.intro (c7) (And.intro (al) (And.intro (se2) (And.intro (se3) (And.intro (aL) (And.intro (lL) (And.intro (sL) (And.intro (zl) (And.intro (hp) (And.intro (hy) (And.intro (hw1) (And.intro (g1) (And.intro (g2) (And.intro (g3) (And.intro (g4) (And.intro (e2) (And.intro (e3) (And.intro (z0) (And.intro (le2) (And.intro (le3) (And.intro (q1) (And.intro (q2) (And.intro (q3) (And.intro (zb) (And.intro (zi) (hw))))))))))))))))))))))))))))))))))))))))))))
    repeat first
      | ((with_reducible apply ends_bind); case h => first | (simp only [stp, stq]; first | done | rfl) | rfl)
      | ((with_reducible apply ends_t); case h => first | rfl | (simp only [stp, stq]; done))
      | ((with_reducible apply ends_f); case h => first | rfl | (simp only [stp, stq]; done))
    exact ends_some ⟨.inl rfl, _, rfl, rfl⟩
  · rw [if_neg h] at c7
    have z0 : ((0 : Int) != 0) = false := rfl
    have z2 : ((2 : Int) != 2) = false := rfl
    by_cases h0 : j < 0
    · have g1 : decide (j ≥ 0) = false := decide_eq_false (by omega)
      have g3 : decide (j < 0) = true := decide_eq_true h0
      have stq := (And.intro (box_agg) (And.intro (box_e) (And.intro (fa) (And.intro (fl0) (And.intro (ls) (And.intro (e1) (And.intro (s1) (And.intro (sf) (And.intro (lp) (And.intro (frz_agg) (And.intro (frz_e) (And.intro (le1) (And.intro (c1) (And.intro (c2) (And.intro (c3) (And.intro (c4) (And.intro (c5) (And.intro (c6) (And.intro (c7) (And.intro (al) (And.intro (se2) (And.intro (se3) (And.intro (aL) (And.intro (lL) (And.intro (sL) (And.intro (zl) (And.intro (hp) (And.intro (hy) (And.intro (hw1) (And.intro (g1) (And.intro (g3) (And.intro (z0) (And.intro (z2) (And.intro (le2) (And.intro (le3) (And.intro (q1) (And.intro (q2) (And.intro (q3) (And.intro (zb) (And.intro (zi) (hw)))))))))))))))))))))))))))))))))))))))))
      repeat first
        | ((with_reducible apply ends_bind); case h => first | (simp only [stp, stq]; first | done | rfl) | rfl)
        | ((with_reducible apply ends_t); case h => first | rfl | (simp only [stp, stq]; done))
        | ((with_reducible apply ends_f); case h => first | rfl | (simp only [stp, stq]; done))
      exact ends_some ⟨.inl rfl, _, rfl, rfl⟩
    · have g1 : decide (j ≥ 0) = true := decide_eq_true (by omega)
      have g2 : decide (j ≤ 3) = false := decide_eq_false (by omega)
      have g3 : decide (j < 0) = false := decide_eq_false h0
      have g4 : decide (j > 3) = true := decide_eq_true (by omega)
      have stq := (And.intro (box_agg) (And.intro (box_e) (And.intro (fa) (And.intro (fl0) (And.intro (ls) (And.intro (e1) (And.intro (s1) (And.intro (sf) (And.intro (lp) (And.intro (frz_agg) (And.intro (frz_e) (And.intro (le1) (And.intro (c1) (And.intro (c2) (And.intro (c3) (And.intro (c4) (And.intro (c5) (And.intro (c6) (And.intro (c7) (And.intro (al) (And.intro (se2) (And.intro (se3) (And.intro (aL) (And.intro (lL) (And.intro (sL) (And.intro (zl) (And.intro (hp) (And.intro (hy) (And.intro (hw1) (And.intro (g1) (And.intro (g2) (And.intro (g3) (And.intro (g4) (And.intro (z0) (And.intro (z2) (And.intro (le2) (And.intro (le3) (And.intro (q1) (And.intro (q2) (And.intro (q3) (And.intro (zb) (And.intro (zi) (hw)))))))))))))))))))))))))))))))))))))))))))
      repeat first
        | ((with_reducible apply ends_bind); case h => first | (simp only [stp, stq]; first | done | rfl) | rfl)
        | ((with_reducible apply ends_t); case h => first | rfl | (simp only [stp, stq]; done))
        | ((with_reducible apply ends_f); case h => first | rfl | (simp only [stp, stq]; done))
      exact ends_some ⟨.inl rfl, _, rfl, rfl⟩
end Go.Sy
