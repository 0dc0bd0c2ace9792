/-
  Layer 10: a field's bytes; the law InodeBack as the reader reads it.
-/
import Derived.Test.YtmngededdpcieaaPfIno3
namespace Go.Sy
open Go.Proofs Num

def fB (x : Ino) (f : Int) : List UInt8 := if (fld f).2.2 = true then ((ib x).drop (fld f).1.toNat).take (fld f).2.1.toNat else []
theorem Fields_ev {n : Nat} (hn : 30 ≤ n) (x : Ino) (f : Int) : cf (evFn cx0 ext0 n) 13 [.agg x.cells, .v (.int .i64 f)] = some (byt false (fB x f)) := by
  obtain ⟨m, rfl⟩ : ∃ m, n = m + 2 := ⟨n - 2, by omega⟩
  have c1 : cf (evFn cx0 ext0 (m + 1)) 24 [.v (.int .i64 f)] = _ := field_ev m f
  have c3 := IPut_ev (n := m + 1) (by omega) x
  have a18 := al_a h18
  have zl8 : (zero 18).length = 18 := rfl
  have hib := ib_len x
  have hf := fld_in f
  have li := fun r => ld_i0 x r
  have st := (sts h18).2.2.1
  unfold cf
  rw [E_inode_Fields]
  refine ends_cf (P := Try.prog) ?_
  unfold F_inode_Fields
  unfold fB
  generalize fld f = w at *
  obtain ⟨p, q, r⟩ := w
  simp only [fldV] at c1 hf ⊢
  cases r
  · rw [if_neg (by simp)]
    have stq := (And.intro (box_i) (And.intro (c1) (And.intro (n_ft) (n_tf))))
    repeat first
      | ((with_reducible apply ends_bind); case h => first | (simp only [stp, stq]; first | done | rfl) | rfl)
      | ((with_reducible apply ends_t); case h => first | rfl | (simp only [stp, stq]; done))
      | ((with_reducible apply ends_f); case h => first | rfl | (simp only [stp, stq]; done))
    exact ends_some ⟨.inl rfl, _, rfl, rfl⟩
  · rw [if_pos rfl]
    obtain ⟨a, rfl⟩ : ∃ a : Nat, p = a := ⟨p.toNat, by omega⟩
    obtain ⟨k, rfl⟩ : ∃ k : Nat, q = k := ⟨q.toNat, by omega⟩
    simp only [Int.toNat_natCast]
    have e1 : IntKind.i64.wrap ((a : Int) + (k : Int)) = ((a + k : Nat) : Int) := by rw [wsm (by omega) (by omega)]; omega
    have s1 := sl_a2 h18 (P := Try.prog) (bx := [x.cells, [], u8l (ib x)]) (k := 2) (b := ib x) rfl hib .i64 .i64 a (a + k) (by omega) (by omega)
    rw [show a + k - a = k by omega] at s1
    have stq := (And.intro (box_i) (And.intro (c1) (And.intro (n_ft) (And.intro (n_tf) (And.intro (li) (And.intro (frz_i) (And.intro (c3) (And.intro (a18) (And.intro (st) (And.intro (zl8) (And.intro (hib) (And.intro (e1) (s1)))))))))))))
    repeat first
      | ((with_reducible apply ends_bind); case h => first | (simp only [stp, stq]; first | done | rfl) | rfl)
      | ((with_reducible apply ends_t); case h => first | rfl | (simp only [stp, stq]; done))
      | ((with_reducible apply ends_f); case h => first | rfl | (simp only [stp, stq]; done))
    exact ends_some ⟨.inl rfl, _, rfl, frz_bo (b := ib x) (d := 4) false rfl (by omega)⟩

/-! ## a load with an inode -/
theorem wi_get (p : List UInt8) (hp : p.length = 54) (j : Nat) (hj : j < 3) (x : Ino) (i : Nat) : (wiL p j x)[i]? = if i < 18 * j then p[i]? else if i < 18 * j + 18 then (ib x)[i - 18 * j]? else p[i]? := by
  have hib := ib_len x
  unfold wiL
  rw [List.append_assoc, List.getElem?_append, List.length_take, Nat.min_eq_left (by omega)]
  split
  · rw [List.getElem?_take, if_pos (by assumption)]
  · rw [List.getElem?_append, hib]
    by_cases h : i < 18 * j + 18
    · rw [if_pos (by omega), if_pos h]
    · rw [if_neg (by omega), if_neg h, List.getElem?_drop]
      congr 1
      omega
theorem wi_at (p : List UInt8) (hp : p.length = 54) (j : Nat) (hj : j < 3) (x : Ino) (i : Nat) (hi : i < 3) : ((wiL p j x).drop (18 * i)).take 18 = if i = j then ib x else (p.drop (18 * i)).take 18 := by
  have hib := ib_len x
  apply List.ext_getElem?
  intro t
  rw [List.getElem?_take]
  by_cases ht : t < 18
  · rw [if_pos ht, List.getElem?_drop, wi_get p hp j hj]
    by_cases h : i = j
    · subst h
      rw [if_neg (by omega), if_pos (by omega), if_pos rfl]
      congr 1
      omega
    · rw [if_neg h, List.getElem?_take, if_pos ht, List.getElem?_drop]
      split
      · rfl
      · rw [if_neg (by omega)]
  · rw [if_neg ht]
    split
    · rw [List.getElem?_eq_none (by omega)]
    · rw [List.getElem?_take, if_neg ht]
theorem wi_fld (p : List UInt8) (hp : p.length = 54) (j : Nat) (hj : j < 3) (x : Ino) (a n : Nat) (h : a + n ≤ 18) : ((wiL p j x).drop (18 * j + a)).take n = ((ib x).drop a).take n := by
  apply List.ext_getElem?
  intro t
  rw [List.getElem?_take, List.getElem?_take]
  by_cases ht : t < n
  · rw [if_pos ht, if_pos ht, List.getElem?_drop, List.getElem?_drop, wi_get p hp j hj, if_neg (by omega), if_pos (by omega)]
    congr 1
    omega
  · rw [if_neg ht, if_neg ht]

theorem ne_ii (x : Ino) : binA Try.prog .neq 26 (.agg x.cells) (.agg x.cells) = some (.v (.bool false)) := by
  have h : ∀ k l s d e f g a b : Int, binA Try.prog .neq 26 (.agg (inoL k l s d e f g a b)) (.agg (inoL k l s d e f g a b)) = some (.v (.bool (!(k == k && (l == l && (s == s && (d == d && (e == e && (f == f && (g == g && (a == a && (b == b && true)))))))))))) := by
    intro k l s d e f g a b
    kernel_rfl
  unfold Ino.cells
  rw [h]
  simp
theorem cv_8_f (bx : Bx) (n : Int) : convA Try.prog bx 5 33 (.v (.int .u8 n)) = some (.v (.int .i64 (IntKind.i64.wrap n)), bx) := by kernel_rfl
theorem st_i3 (A B C : List AV) (x y : Ino) (r : Bx) : stA Try.prog 26 (A :: B :: C :: x.cells :: r) (.bp 3 0) (.agg y.cells) = some (.v undef, A :: B :: C :: y.cells :: r) := by
  unfold Ino.cells; kernel_rfl
theorem st_i4 (A B C D : List AV) (x y : Ino) (r : Bx) : stA Try.prog 26 (A :: B :: C :: D :: x.cells :: r) (.bp 4 0) (.agg y.cells) = some (.v undef, A :: B :: C :: D :: y.cells :: r) := by
  unfold Ino.cells; kernel_rfl
theorem ld_i3 (A B C : List AV) (x : Ino) (r : Bx) : loadA Try.prog 26 (A :: B :: C :: x.cells :: r) (.bp 3 0) = some (.agg x.cells) := by
  unfold Ino.cells; kernel_rfl
theorem ld_i4 (A B C D : List AV) (x : Ino) (r : Bx) : loadA Try.prog 26 (A :: B :: C :: D :: x.cells :: r) (.bp 4 0) = some (.agg x.cells) := by
  unfold Ino.cells; kernel_rfl
theorem fldN (f : Nat) (h : f < 10) : ∃ a n : Nat, fld f = ((a : Int), (n : Int), true) ∧ a + n ≤ 18 := by
  have : f = 0 ∨ f = 1 ∨ f = 2 ∨ f = 3 ∨ f = 4 ∨ f = 5 ∨ f = 6 ∨ f = 7 ∨ f = 8 ∨ f = 9 := by omega
  rcases this with h | h | h | h | h | h | h | h | h | h <;> subst h
  · exact ⟨0, 18, rfl, by omega⟩
  · exact ⟨1, 1, rfl, by omega⟩
  · exact ⟨2, 4, rfl, by omega⟩
  · exact ⟨6, 2, rfl, by omega⟩
  · exact ⟨8, 2, rfl, by omega⟩
  · exact ⟨10, 2, rfl, by omega⟩
  · exact ⟨12, 2, rfl, by omega⟩
  · exact ⟨14, 2, rfl, by omega⟩
  · exact ⟨16, 2, rfl, by omega⟩
  · exact ⟨2, 16, rfl, by omega⟩

theorem back_ev (p : List UInt8) (hp : p.length = 54) (sl f8 : UInt8) (x : Ino) (hx : x.ok) : cf (evFn cx0 ext0 1000) 7 [.agg (u8l p), u8 sl, .agg x.cells, u8 f8] = some (.v (.bool true)) := by
  have hw := works_at 999 (by omega)
  have lL := lds hL
  have sL := sts hL
  have aL := al_a hL
  have zl : (zero 54).length = 54 := rfl
  have k1 : (sl.toNat : Int).tmod 3 = ((sl.toNat % 3 : Nat) : Int) := by rw [Int.tmod_eq_emod_of_nonneg (by omega)]; omega
  have k2 : IntKind.i64.wrap ((sl.toNat % 3 : Nat) : Int) = ((sl.toNat % 3 : Nat) : Int) := by rw [wsm (by omega) (by omega)]
  have hk : sl.toNat % 3 < 3 := by omega
  generalize sl.toNat % 3 = kk at *
  have cv : ∀ bx, convA Try.prog bx 5 3 (.v (.int .u8 (kk : Int))) = some (.v (.int .i64 kk), bx) := by
    intro bx
    rw [cv_8_64, k2]
  have c1 := With_ev' (n := 999) (by omega) p hp kk x
  rw [show wiV p kk x = _ from if_pos (by omega), Int.toNat_natCast] at c1
  have hq := wiL_len p hp kk hk x
  have c2 := IPut_ev (n := 999) (by omega) x
  have c3 := IGet_ev (n := 999) (by omega) (ib x) (ib_len x)
  rw [gi_ib x hx] at c3
  have li := fun r => ld_i1 (u8l p) x r
  have n0 := ne_ii x
  unfold cf
  rw [E_l10_InodeBack]
  refine ends_cf (P := Try.prog) ?_
  unfold F_l10_InodeBack
  have stq := (And.intro (box_agg) (And.intro (box_i) (And.intro (hw) (And.intro (n_tf) (And.intro (n_ft) (And.intro (k1) (And.intro (cv) (And.intro (lL) (And.intro (sL) (And.intro (aL) (And.intro (zl) (And.intro (hp) (And.intro (hq) (And.intro (li) (And.intro (frz_i) (And.intro (frz_agg) (And.intro (c1) (And.intro (c2) (And.intro (c3) (n0))))))))))))))))))))
  repeat first
    | ((with_reducible apply ends_bind); case h => first | (simp only [stp, stq]; first | done | rfl) | rfl)
    | ((with_reducible apply ends_t); case h => first | rfl | (simp only [stp, stq]; done))
    | ((with_reducible apply ends_f); case h => first | rfl | (simp only [stp, stq]; done))
  refine ends_loop (fun k s => ∃ (j : Nat) (y0 y1 y2 : AV) (b0 b1 b2 : List AV), s = ⟨[(12, .v (.int .i64 j)), (40, .v (.bool false)), (11, .v (.int .i64 0)), (10, .bp 2 0), (9, .v (.int .i64 kk)), (21, .v (.bool false)), (8, .v (.bool false)), (6, .bp 1 0), (4, .bp 0 0), (0, y0), (1, y1), (2, y2), (3, u8 f8)], [b0, b1, b2]⟩ ∧
    b0 = u8l p ∧ b1 = x.cells ∧ b2 = u8l (wiL p kk x) ∧ j + k = 3) 3 (by omega) ⟨0, _, _, _, _, _, _, rfl, rfl, rfl, rfl, by omega⟩ ?_
  rintro k s ⟨j, y0, y1, y2, b0, b1, b2, rfl, rfl, rfl, rfl, hjk⟩
  refine L_l10_InodeBack_0_lit ?_
  unfold B_l10_InodeBack_0
  rcases k with _ | k
  · have g0 : decide ((j : Int) < 3) = false := decide_eq_false (by omega)
    have stq := (g0)
    repeat first
      | ((with_reducible apply ends_bind); case h => first | (simp only [stp, stq]; first | done | rfl) | rfl)
      | ((with_reducible apply ends_t); case h => first | rfl | (simp only [stp, stq]; done))
      | ((with_reducible apply ends_f); case h => first | rfl | (simp only [stp, stq]; done))
    refine ends_some (.inr (.inl ⟨0, rfl, X_l10_InodeBack_0_0_lit ?_⟩))
    unfold X_l10_InodeBack_0_0
    have m1 : (f8.toNat : Int).tmod 10 = ((f8.toNat % 10 : Nat) : Int) := by rw [Int.tmod_eq_emod_of_nonneg (by omega)]; omega
    have m2 : IntKind.i64.wrap ((f8.toNat % 10 : Nat) : Int) = ((f8.toNat % 10 : Nat) : Int) := by rw [wsm (by omega) (by omega)]
    have hf : f8.toNat % 10 < 10 := by omega
    generalize f8.toNat % 10 = ff at *
    obtain ⟨a, n, hfl, han⟩ := fldN ff hf
    have d1 : cf (evFn cx0 ext0 999) 11 [.v (.int .i64 kk), .v (.int .i64 ff)] = _ := Offset_ev 997 kk ff
    have d2 := Fields_ev (n := 999) (by omega) x ff
    have cf8 : ∀ bx, convA Try.prog bx 5 33 (.v (.int .u8 (ff : Int))) = some (.v (.int .i64 ff), bx) := by
      intro bx
      rw [cv_8_f, m2]
    have e1 : (18 : Int) * (kk : Int) + (a : Int) = ((18 * kk + a : Nat) : Int) := by omega
    unfold offV at d1
    unfold fB at d2
    rw [hfl] at d1 d2
    rw [if_pos ⟨by omega, rfl⟩] at d1
    rw [if_pos rfl] at d2
    simp only [Int.toNat_natCast, e1] at d1 d2
    have e2 : IntKind.i64.wrap (((18 * kk + a : Nat) : Int) + (n : Int)) = ((18 * kk + a + n : Nat) : Int) := by rw [wsm (by omega) (by omega)]; omega
    have s1 := sl_a2 hL (P := Try.prog) (bx := [u8l p, x.cells, u8l (wiL p kk x)]) (k := 2) (b := wiL p kk x) rfl hq .i64 .i64 (18 * kk + a) (18 * kk + a + n) (by omega) (by omega)
    rw [show 18 * kk + a + n - (18 * kk + a) = n by omega] at s1
    have z1 : frz [u8l p, x.cells, u8l (wiL p kk x)] true 6 (.bsl 2 (18 * kk + a) n 1) = byt true (((wiL p kk x).drop (18 * kk + a)).take n) := frz_bo (b := wiL p kk x) (d := 4) true rfl (by omega)
    rw [wi_fld p hp kk hk x a n han] at z1
    have sm : cf (evFn cx0 ext0 999) 14 [byt true (((ib x).drop a).take n), byt false (((ib x).drop a).take n)] = _ := same_ev 998 _ _ true false
    have bb : ∀ l : List UInt8, (l == l) = true := fun l => by simp
    rw [bb] at sm
    have zf : ∀ l : List UInt8, frz [u8l p, x.cells, u8l (wiL p kk x)] true 6 (byt false l) = byt false l := fun l => frz_byt _ 5 false l
    have stq := (And.intro (m1) (And.intro (cf8) (And.intro (d1) (And.intro (d2) (And.intro (e2) (And.intro (s1) (And.intro (li) (And.intro (frz_i) (And.intro (z1) (And.intro (zf) (sm)))))))))))
    repeat first
      | ((with_reducible apply ends_bind); case h => first | (simp only [stp, stq]; first | done | rfl) | rfl)
      | ((with_reducible apply ends_t); case h => first | rfl | (simp only [stp, stq]; done))
      | ((with_reducible apply ends_f); case h => first | rfl | (simp only [stp, stq]; done))
    exact ends_some ⟨.inl rfl, _, rfl, rfl⟩
  · have g0 : decide ((j : Int) < 3) = true := decide_eq_true (by omega)
    have d1 := At_ev (n := 999) (by omega) p hp j
    have d2 := At_ev (n := 999) (by omega) (wiL p kk x) hq j
    rw [show atV p j = _ from if_pos (by omega), Int.toNat_natCast] at d1
    rw [show atV (wiL p kk x) j = _ from if_pos (by omega), Int.toNat_natCast, wi_at p hp kk hk x j (by omega)] at d2
    have e3 : IntKind.i64.wrap ((j : Int) + 1) = ((j + 1 : Nat) : Int) := by rw [wsm (by omega) (by omega)]; omega
    by_cases h : j = kk
    · subst h
      rw [if_pos rfl, gi_ib x hx] at d2
      have stq := (And.intro (g0) (And.intro (lL) (And.intro (hp) (And.intro (hq) (And.intro (frz_agg) (And.intro (d1) (And.intro (d2) (And.intro (al_i) (And.intro (st_i3) (And.intro (st_i4) (And.intro (ld_i3) (And.intro (ld_i4) (And.intro (li) (And.intro (n0) (e3)))))))))))))))
      repeat first
        | ((with_reducible apply ends_bind); case h => first | (simp only [stp, stq]; first | done | rfl) | rfl)
        | ((with_reducible apply ends_t); case h => first | rfl | (simp only [stp, stq]; done))
        | ((with_reducible apply ends_f); case h => first | rfl | (simp only [stp, stq]; done))
      exact ends_some (.inl ⟨rfl, k, by omega, j + 1, _, _, _, _, _, _, by first | rfl | (rw [← e3]; rfl), u8l_keep _ _, rfl, u8l_keep _ _, by omega⟩)
    · rw [if_neg h] at d2
      have g1 : ((j : Int) == (kk : Int)) = false := by simp; omega
      have g2 : ((j : Int) != (kk : Int)) = true := by simp; omega
      have n1 := ne_ii (gi ((p.drop (18 * j)).take 18))
      have stq := (And.intro (g0) (And.intro (g1) (And.intro (g2) (And.intro (lL) (And.intro (hp) (And.intro (hq) (And.intro (frz_agg) (And.intro (d1) (And.intro (d2) (And.intro (al_i) (And.intro (st_i3) (And.intro (st_i4) (And.intro (ld_i3) (And.intro (ld_i4) (And.intro (li) (And.intro (n1) (e3)))))))))))))))))
      repeat first
        | ((with_reducible apply ends_bind); case h => first | (simp only [stp, stq]; first | done | rfl) | rfl)
        | ((with_reducible apply ends_t); case h => first | rfl | (simp only [stp, stq]; done))
        | ((with_reducible apply ends_f); case h => first | rfl | (simp only [stp, stq]; done))
      exact ends_some (.inl ⟨rfl, k, by omega, j + 1, _, _, _, _, _, _, by first | rfl | (rw [← e3]; rfl), u8l_keep _ _, rfl, u8l_keep _ _, by omega⟩)
end Go.Sy
