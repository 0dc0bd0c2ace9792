/-
  Layer 12: the law DirentBack as the reader reads it.
-/
import Derived.Test.YtmegbgmgpogfoaaPfDir3
namespace Go.Sy
open Go.Proofs Go.Proofs.Ytmegbgmgpogfoaa Num

theorem rd_zero : rdE (zero 13) = (0, ⟨#[]⟩, 0) := by
  unfold rdE
  rw [if_pos rfl]
theorem arr_self (s : ByteArray) : (⟨s.data.toList.toArray⟩ : ByteArray) = s := by
  obtain ⟨a⟩ := s
  simp
theorem rd_eb (n : Nat) (s : ByteArray) (h : okE n s.data.toList = true) : rdE (eb n s.data.toList) = ((n : Int), s, 1) := by
  have h' := h
  unfold okE at h'
  simp only [Bool.and_eq_true, decide_eq_true_eq] at h'
  obtain ⟨l1, l2⟩ := name_len h'.2
  have hb : eb n s.data.toList = [UInt8.ofNat n, UInt8.ofNat (n / 256), UInt8.ofNat s.data.toList.length] ++ (s.data.toList ++ zero (10 - s.data.toList.length)) := by
    unfold eb p16
    simp
  have g2 : ((eb n s.data.toList).getD 2 0).toNat = s.data.toList.length := by
    rw [hb, List.getD_eq_getElem?_getD]
    show (UInt8.ofNat s.data.toList.length).toNat = _
    rw [UInt8.toNat_ofNat']
    omega
  have hnz : eb n s.data.toList ≠ zero 13 := by
    intro e
    rw [e] at g2
    have : ((zero 13).getD 2 0).toNat = 0 := rfl
    omega
  have hnb : nb (eb n s.data.toList) = n := by
    unfold nb
    rw [show (eb n s.data.toList).take 2 = p16 n by rw [hb]; rfl]
    exact le_p16 n (by omega)
  have hnm : nmB (eb n s.data.toList) = s.data.toList := by
    unfold nmB
    rw [g2, show min (3 + s.data.toList.length) 13 - 3 = s.data.toList.length by omega, show (eb n s.data.toList).drop 3 = s.data.toList ++ zero (10 - s.data.toList.length) by rw [hb]; rfl, List.take_left]
  unfold rdE
  rw [if_neg hnz, hnb, hnm, if_pos ⟨h, rfl⟩, arr_self]
theorem ne_self (n : Int) (s : ByteArray) : binA Try.prog .neq 23 (.agg (ent n s)) (.agg (ent n s)) = some (.v (.bool false)) := by
  have h : binA Try.prog .neq 23 (.agg (ent n s)) (.agg (ent n s)) = some (.v (.bool (!(n == n && (s.toList == s.toList && true))))) := by kernel_rfl
  rw [h]
  simp
theorem ld_e6 (A B C D E F : List AV) (n : Int) (s : ByteArray) (r : Bx) : loadA Try.prog 23 (A :: B :: C :: D :: E :: F :: ent n s :: r) (.bp 6 0) = some (.agg (ent n s)) := by kernel_rfl
theorem st_e6 (A B C D E F : List AV) (n n' : Int) (s s' : ByteArray) (r : Bx) : stA Try.prog 23 (A :: B :: C :: D :: E :: F :: ent n s :: r) (.bp 6 0) (.agg (ent n' s')) = some (.v undef, A :: B :: C :: D :: E :: F :: ent n' s' :: r) := by kernel_rfl
theorem fa_e (k : Nat) : fieldAddrA Try.prog 23 (.bp k 0) 0 = some (.bp k 0) ∧ fieldAddrA Try.prog 23 (.bp k 0) 1 = some (.bp k 1) := ⟨by kernel_rfl, by kernel_rfl⟩
theorem sf_e (A : List AV) (n n' : Int) (s : ByteArray) (r : Bx) : stA Try.prog 3 (A :: ent n s :: r) (.bp 1 0) (.v (.int .i64 n')) = some (.v undef, A :: ent n' s :: r) := by kernel_rfl
theorem back_ev (p : List UInt8) (hp : p.length = 54) (sl : UInt8) (e : Int × ByteArray) : cf (evFn cx0 ext0 1000) 5 [.agg (u8l p), u8 sl, .agg (ent e.1 e.2)] = some (.v (.bool true)) := by
  obtain ⟨n0, s⟩ := e
  simp only
  have hw := works_at 999 (by omega)
  have k1 : (sl.toNat : Int).tmod 4 = ((sl.toNat % 4 : Nat) : Int) := by rw [Int.tmod_eq_emod_of_nonneg (by omega)]; omega
  have hj : sl.toNat % 4 < 4 := by omega
  generalize sl.toNat % 4 = j at *
  have cv : ∀ bx, convA Try.prog bx 5 3 (.v (.int .u8 (j : Int))) = some (.v (.int .i64 j), bx) := by
    intro bx
    have h : convA Try.prog bx 5 3 (.v (.int .u8 (j : Int))) = some (.v (.int .i64 (IntKind.i64.wrap (j : Int))), bx) := by kernel_rfl
    have e : IntKind.i64.wrap (j : Int) = (j : Int) := by rw [wrap64]; omega
    rw [h, e]
  obtain ⟨q, hq, am⟩ := among_ev 998 n0 65535 (by omega) (by omega)
  have am' : cf (evFn cx0 ext0 999) 14 [.v (.int .i64 n0), .v (.int .i64 65535)] = _ := am
  have e1 : IntKind.i64.wrap (1 + (q : Int)) = ((1 + q : Nat) : Int) := by rw [wrap64]; omega
  have hn1 : 1 ≤ 1 + q := by omega
  have hn2 : 1 + q ≤ 65535 := by omega
  generalize 1 + q = n at *
  have c1 := With_ev (k := 999) (by omega) p hp j hj (n : Int) s
  have ck : cf (evFn cx0 ext0 999) 11 [.v (.string s)] = _ := check_ev 998 s
  have lp := fun r => ld_a hL (P := Try.prog) (bx := u8l p :: r) (k := 0) (b := p) rfl hp
  have f1 := fun n r => fl_e n s (u8l p) r
  have fa := fa_e
  have sf := fun n n' r => sf_e (u8l p) n n' s r
  have le1 := fun n r => (ld_e (u8l p) [] [] [] [] n s r).2.1
  have aL := al_a hL (P := Try.prog)
  have zl : (zero 54).length = 54 := rfl
  unfold cf
  rw [E_l12_DirentBack]
  refine ends_cf (P := Try.prog) ?_
  unfold F_l12_DirentBack
  cases ho : okE (n : Int) s.data.toList
  · -- no name
    rw [ho, if_neg (by simp)] at c1
    have hnm : isName s.data.toList = false := by
      unfold okE at ho
      rw [decide_eq_true (show (1 : Int) ≤ n by omega), decide_eq_true (show (n : Int) ≤ 65535 by omega)] at ho
      simpa using ho
    have hE : putE (n : Int) = 45 := by
      unfold putE
      rw [if_neg (by omega)]
    rw [hE] at c1
    rw [chk_bad hnm] at ck
    have s2 := st_a hL (P := Try.prog) (bx := [u8l p, ent n s, u8l (zero 54)]) (k := 2) (b := zero 54) (c := zero 54) rfl zl zl
    simp only [List.set_cons_succ, List.set_cons_zero] at s2
    have l2 := ld_a hL (P := Try.prog) (bx := [u8l p, ent n s, u8l (zero 54)]) (k := 2) (b := zero 54) rfl zl
    have zb := z_a hL (P := Try.prog)
    have eqz := (eq_a hL (P := Try.prog) (a := zero 54) (b := zero 54) zl zl).1
    rw [beq_self] at eqz
    have z1 : ((45 : Int) != 0) = true := rfl
    have z2 : ((45 : Int) == 45) = true := rfl
    have stq := (And.intro (box_agg) (And.intro (box_e) (And.intro (hw) (And.intro (n_tf) (And.intro (k1) (And.intro (cv) (And.intro (fa) (And.intro (f1) (And.intro (am') (And.intro (e1) (And.intro (sf) (And.intro (lp) (And.intro (le1) (And.intro (frz_agg) (And.intro (frz_e) (And.intro (c1) (And.intro (aL) (And.intro (s2) (And.intro (z1) (And.intro (ck) (And.intro (z2) (And.intro (l2) (And.intro (zb) (eqz))))))))))))))))))))))))
    repeat first
      | ((with_reducible apply ends_bind); case h => first | (simp only [stp, stq]; first | done | rfl) | rfl)
      | ((with_reducible apply ends_t); case h => first | rfl | (simp only [stp, stq]; done))
      | ((with_reducible apply ends_f); case h => first | rfl | (simp only [stp, stq]; done))
    exact ends_some ⟨.inl rfl, _, rfl, rfl⟩
  · rw [ho, if_pos rfl, Int.toNat_natCast] at c1
    have hnm : s.data.toList.length ≤ 10 := by
      unfold okE at ho
      simp only [Bool.and_eq_true] at ho
      exact (name_len ho.2).2
    have hrd := rd_eb n s ho
    have hel := eb_len n s.data.toList hnm
    generalize eb n s.data.toList = c at *
    have hQ := wdL_len p hp j hj c hel
    have c2 := Without_ev (k := 999) (by omega) (wdL p j c) hQ j hj
    have hR := wdL_len (wdL p j c) hQ j hj (zero 13) rfl
    have aQ := wd_at p hp j hj c hel
    have aR := wd_at (wdL p j c) hQ j hj (zero 13) rfl
    generalize wdL (wdL p j c) j (zero 13) = R at *
    generalize wdL p j c = Q at *
    have s2 := st_a hL (P := Try.prog) (bx := [u8l p, ent n s, u8l (zero 54)]) (k := 2) (b := zero 54) (c := Q) rfl zl hQ
    have s3 := st_a hL (P := Try.prog) (bx := [u8l p, ent n s, u8l Q, u8l (zero 54)]) (k := 3) (b := zero 54) (c := R) rfl zl hR
    simp only [List.set_cons_succ, List.set_cons_zero] at s2 s3
    have l2 := fun r => ld_a hL (P := Try.prog) (bx := u8l p :: ent n s :: u8l Q :: r) (k := 2) (b := Q) rfl hQ
    have l3 := fun r => ld_a hL (P := Try.prog) (bx := u8l p :: ent n s :: u8l Q :: u8l R :: r) (k := 3) (b := R) rfl hR
    have z1 : ((0 : Int) != 0) = false := rfl
    have z0 : ((0 : Int) == 0) = true := rfl
    have stq := (And.intro (box_agg) (And.intro (box_e) (And.intro (hw) (And.intro (n_tf) (And.intro (k1) (And.intro (cv) (And.intro (fa) (And.intro (f1) (And.intro (am') (And.intro (e1) (And.intro (sf) (And.intro (lp) (And.intro (le1) (And.intro (frz_agg) (And.intro (frz_e) (And.intro (c1) (And.intro (aL) (And.intro (s2) (And.intro (z1) (And.intro (l2) (And.intro (c2) (s3))))))))))))))))))))))
    repeat first
      | ((with_reducible apply ends_bind); case h => first | (simp only [stp, stq]; first | done | rfl) | rfl)
      | ((with_reducible apply ends_t); case h => first | rfl | (simp only [stp, stq]; done))
      | ((with_reducible apply ends_f); case h => first | rfl | (simp only [stp, stq]; done))
    refine ends_loop (fun k st => ∃ (i : Nat) (y40 y23 y0 y1 y2 : AV) (b0 b1 b2 b3 : List AV), st = ⟨[(12, .v (.int .i64 i)), (11, .v (.int .i64 0)), (10, .bp 3 0), (40, y40), (9, .v (.int .i64 0)), (8, .bp 2 0), (7, .v (.int .i64 j)), (23, y23), (6, .v (.bool false)), (5, .bp 1 0), (3, .bp 0 0), (0, y0), (1, y1), (2, y2)], [b0, b1, b2, b3]⟩ ∧
      b0 = u8l p ∧ b1 = ent n s ∧ b2 = u8l Q ∧ b3 = u8l R ∧ i + k = 4) 4 (by omega) ⟨0, _, _, _, _, _, _, _, _, _, rfl, rfl, rfl, rfl, rfl, by omega⟩ ?_
    rintro k st ⟨i, y40, y23, y0, y1, y2, b0, b1, b2, b3, rfl, rfl, rfl, rfl, rfl, hik⟩
    refine L_l12_DirentBack_0_lit ?_
    unfold B_l12_DirentBack_0
    rcases k with _ | k
    · have g0 : decide ((i : Int) < 4) = false := decide_eq_false (by omega)
      have stq := (g0)
      repeat first
        | ((with_reducible apply ends_bind); case h => first | (simp only [stp, stq]; first | done | rfl) | rfl)
        | ((with_reducible apply ends_t); case h => first | rfl | (simp only [stp, stq]; done))
        | ((with_reducible apply ends_f); case h => first | rfl | (simp only [stp, stq]; done))
      refine ends_some (.inr (.inl ⟨0, rfl, X_l12_DirentBack_0_0_lit ?_⟩))
      unfold X_l12_DirentBack_0_0
      have stq := (z0)
      repeat first
        | ((with_reducible apply ends_bind); case h => first | (simp only [stp, stq]; first | done | rfl) | rfl)
        | ((with_reducible apply ends_t); case h => first | rfl | (simp only [stp, stq]; done))
        | ((with_reducible apply ends_f); case h => first | rfl | (simp only [stp, stq]; done))
      exact ends_some ⟨.inl rfl, _, rfl, rfl⟩
    · have g0 : decide ((i : Int) < 4) = true := decide_eq_true (by omega)
      have d1 := At_ev (k := 999) (by omega) p hp i (by omega)
      have d2 := At_ev (k := 999) (by omega) Q hQ i (by omega)
      have d3 := At_ev (k := 999) (by omega) R hR i (by omega)
      rw [aQ i (by omega)] at d2
      rw [aR i (by omega), aQ i (by omega)] at d3
      have e3 : IntKind.i64.wrap ((i : Int) + 1) = ((i + 1 : Nat) : Int) := by rw [wrap64]; omega
      have al := al_e
      have zE0 : zE = ent 0 ⟨#[]⟩ := rfl
      simp only [zE0] at al
      have st4 := fun n' s' r => (st_e (u8l p) (ent n s) (u8l Q) (u8l R) [] 0 n' ⟨#[]⟩ s' r).2.2.2.1
      have st5 := fun X n' s' r => (st_e (u8l p) (ent n s) (u8l Q) (u8l R) X 0 n' ⟨#[]⟩ s' r).2.2.2.2
      have st6 := fun X Y n' s' r => st_e6 (u8l p) (ent n s) (u8l Q) (u8l R) X Y 0 n' ⟨#[]⟩ s' r
      have le4 := fun n' s' r => (ld_e (u8l p) (ent n s) (u8l Q) (u8l R) [] n' s' r).2.2.2.2.1
      have le5 := fun X n' s' r => (ld_e (u8l p) (ent n s) (u8l Q) (u8l R) X n' s' r).2.2.2.2.2
      have le6 := fun X Y n' s' r => ld_e6 (u8l p) (ent n s) (u8l Q) (u8l R) X Y n' s' r
      unfold atV at d1 d2 d3
      by_cases h : i = j
      · subst h
        rw [if_pos rfl, hrd] at d2
        rw [if_pos rfl, rd_zero] at d3
        generalize rdE (slB p i) = w at *
        obtain ⟨n1, s1, t1⟩ := w
        simp only at d1 d2 d3
        have k2 : ((i : Int) == (i : Int)) = true := by simp
        have k3 : ((i : Int) != (i : Int)) = false := by simp
        have z5 : ((1 : Int) != 1) = false := rfl
        have nn := ne_self n s
        have stq := (And.intro (g0) (And.intro (lp) (And.intro (frz_agg) (And.intro (d1) (And.intro (d2) (And.intro (d3) (And.intro (al) (And.intro (st4) (And.intro (st5) (And.intro (st6) (And.intro (le4) (And.intro (le5) (And.intro (le6) (And.intro (le1) (And.intro (l2) (And.intro (l3) (And.intro (k2) (And.intro (k3) (And.intro (z5) (And.intro (z1) (And.intro (nn) (e3))))))))))))))))))))))
        repeat first
          | ((with_reducible apply ends_bind); case h => first | (simp only [stp, stq]; first | done | rfl) | rfl)
          | ((with_reducible apply ends_t); case h => first | rfl | (simp only [stp, stq]; done))
          | ((with_reducible apply ends_f); case h => first | rfl | (simp only [stp, stq]; done))
        exact ends_some (.inl ⟨rfl, k, by omega, i + 1, _, _, _, _, _, _, _, _, _, by first | rfl | (rw [← e3]; rfl), u8l_keep _ _, rfl, u8l_keep _ _, u8l_keep _ _, by omega⟩)
      · rw [if_neg h] at d2
        rw [if_neg h, if_neg h] at d3
        generalize rdE (slB p i) = w at *
        obtain ⟨n1, s1, t1⟩ := w
        simp only at d1 d2 d3
        have k2 : ((i : Int) == (j : Int)) = false := by simp; omega
        have k3 : ((i : Int) != (j : Int)) = true := by simp; omega
        have z5 : (t1 != t1) = false := by simp
        have nn := ne_self n1 s1
        have stq := (And.intro (g0) (And.intro (lp) (And.intro (frz_agg) (And.intro (d1) (And.intro (d2) (And.intro (d3) (And.intro (al) (And.intro (st4) (And.intro (st5) (And.intro (st6) (And.intro (le4) (And.intro (le5) (And.intro (le6) (And.intro (le1) (And.intro (l2) (And.intro (l3) (And.intro (k2) (And.intro (k3) (And.intro (z5) (And.intro (nn) (e3)))))))))))))))))))))
        repeat first
          | ((with_reducible apply ends_bind); case h => first | (simp only [stp, stq]; first | done | rfl) | rfl)
          | ((with_reducible apply ends_t); case h => first | rfl | (simp only [stp, stq]; done))
          | ((with_reducible apply ends_f); case h => first | rfl | (simp only [stp, stq]; done))
        exact ends_some (.inl ⟨rfl, k, by omega, i + 1, _, _, _, _, _, _, _, _, _, by first | rfl | (rw [← e3]; rfl), u8l_keep _ _, rfl, u8l_keep _ _, u8l_keep _ _, by omega⟩)
theorem fits_ent {l : List AV} (h : ShFits [.int .i64, .str] l) : ∃ e : Int × ByteArray, e.2.size ≤ maxLen ∧ l = ent e.1 e.2 := by
  obtain ⟨h1, h2⟩ := h
  match l, h1 with
  | [a, b], _ =>
    obtain ⟨n, rfl, _, _⟩ := fit_i64 (h2 0 a _ rfl rfl)
    obtain ⟨s, rfl, hs⟩ := fit_str (h2 1 b _ rfl rfl)
    exact ⟨(n, s), hs, rfl⟩
end Go.Sy
