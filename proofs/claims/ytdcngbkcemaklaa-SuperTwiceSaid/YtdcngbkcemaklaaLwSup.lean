/-
  Layer 08's law SuperPuts as the reader reads it.
-/
import Derived.Test.YtdcngbkcemaklaaLwSupW
namespace Go.Sy
open Go.Proofs Num Crc Seal

theorem supV_form (a b c : Int) : ∃ q e, supV a b c = .tup [.agg (u8l q), .v (.int .i64 e)] ∧ q.length = 54 ∧ (gOk a b c → e = 0 ∧ q = sb a.toNat b.toNat c.toNat) ∧ (¬ gOk a b c → e = 2) := by
  unfold supV
  split
  · rename_i h
    exact ⟨_, _, rfl, sb_len _ _ _, fun _ => ⟨rfl, rfl⟩, fun x => absurd h x⟩
  · rename_i h
    exact ⟨_, _, rfl, rfl, fun x => absurd x h, fun _ => rfl⟩
theorem getS_form (p : List UInt8) : ∃ x y z e, getS p = .tup [gV x y z, .v (.int .i64 e)] := by
  unfold getS
  split
  · exact ⟨_, _, _, _, rfl⟩
  · exact ⟨_, _, _, _, rfl⟩
theorem sgN (A B C D : List AV) (x y z x' y' z' : Int) (r : Bx) : stA Try.prog 23 (A :: B :: C :: D :: gC x y z :: r) (.bp 4 0) (gV x' y' z') = some (.v undef, A :: B :: C :: D :: gC x' y' z' :: r) := by kernel_rfl
theorem sgM (A B C D E : List AV) (x y z x' y' z' : Int) (r : Bx) : stA Try.prog 23 (A :: B :: C :: D :: E :: gC x y z :: r) (.bp 5 0) (gV x' y' z') = some (.v undef, A :: B :: C :: D :: E :: gC x' y' z' :: r) := by kernel_rfl
theorem lgN (A B C D : List AV) (x y z : Int) (r : Bx) : loadA Try.prog 23 (A :: B :: C :: D :: gC x y z :: r) (.bp 4 0) = some (gV x y z) := by kernel_rfl
theorem lgM (A B C D E : List AV) (x y z : Int) (r : Bx) : loadA Try.prog 23 (A :: B :: C :: D :: E :: gC x y z :: r) (.bp 5 0) = some (gV x y z) := by kernel_rfl

set_option maxRecDepth 100000 in
theorem puts_ev (a b c : Int) (p : List UInt8) (hp : p.length = 54) : cf (evFn cx0 ext0 1000) 3 [gV a b c, .agg (u8l p)] = some (.v (.bool true)) := by
  have hw := works_at 999 (by omega)
  have c1 := SPut_ev (k := 999) (by omega) a b c
  have c2 := rSPut_ev (k := 999) (by omega) a b c
  have c3 := SGet_ev (k := 999) (by omega) p hp
  have c4 := rSGet_ev (k := 999) (by omega) p hp
  have c5 := Format_ev (k := 999) (by omega) a b c
  obtain ⟨x, y, z, e2, h2⟩ := getS_form p
  rw [h2] at c3 c4
  have lB := lds hB
  have lL := lds hL
  have sB := sts hB
  have sL := sts hL
  have aB := al_a hB (P := Try.prog)
  have aL := al_a hL (P := Try.prog)
  have zB := z_a hB (P := Try.prog)
  have zl : (zero 64).length = 64 := rfl
  have zl4 : (zero 54).length = 54 := rfl
  have bb : ∀ l : List UInt8, (l == l) = true := fun l => by simp
  have bi : ∀ i : Int, (i == i) = true := fun i => by simp
  have lg := fun r => ld_g a b c r
  have tt : (true && true) = true := rfl
  unfold cf
  rw [E_l08_SuperPuts]
  refine ends_cf (P := Try.prog) ?_
  unfold F_l08_SuperPuts
  by_cases h : gOk a b c
  · obtain ⟨q, e1, h1, hq, hy, _⟩ := supV_form a b c
    obtain ⟨rfl, hqd⟩ := hy h
    rw [h1] at c1 c2
    have hbl := blk_len 1 1 q hq
    have c6 : cf (evFn cx0 ext0 999) 12 [.v (.int .i64 1), .v (.int .u32 1), .agg (u8l q)] = _ := rPut_ev (n := 999) (by omega) 1 1 (by omega) q hq
    rw [show putV 1 1 q = .tup [.agg (u8l (blk 1 1 q)), .v (.int .i64 0)] from if_pos (by unfold mayK; omega)] at c6
    rw [show fmtV a b c = .tup [.agg (u8l (blk 1 1 q)), .v (.int .i64 0)] by rw [hqd]; exact if_pos h] at c5
    obtain ⟨w, hwd⟩ : ∃ w, w = blk 1 1 q := ⟨_, rfl⟩
    rw [← hwd] at c5 c6 hbl
    have n0 : ((0 : Int) != 0) = false := rfl
    have e1 := (eq_a hB (P := Try.prog) (a := w) (b := w) hbl hbl).1
    have e3 := (eq_a hL (P := Try.prog) (a := q) (b := q) hq hq).1
    have stq := (And.intro (box_g) (And.intro (box_agg) (And.intro (aB) (And.intro (aL) (And.intro (al_g) (And.intro (lB) (And.intro (lL) (And.intro (sB) (And.intro (sL) (And.intro (lg) (And.intro (sgN) (And.intro (sgM) (And.intro (lgN) (And.intro (lgM) (And.intro (zl) (And.intro (zl4) (And.intro (hp) (And.intro (hq) (And.intro (hbl) (And.intro (frz_agg) (And.intro (frz_g) (And.intro (c1) (And.intro (c2) (And.intro (c3) (And.intro (c4) (And.intro (c5) (And.intro (c6) (And.intro (e1) (And.intro (e3) (And.intro (bb) (And.intro (bi) (And.intro (n0) (And.intro (eq_g) (And.intro (tt) (hw)))))))))))))))))))))))))))))))))))
    repeat first
      | ((with_reducible apply ends_bind); case h => first | (simp only [stp, stq]; first | done | rfl) | rfl)
      | ((with_reducible apply ends_t); case h => first | rfl | (simp only [stp, stq]; done))
      | ((with_reducible apply ends_f); case h => first | rfl | (simp only [stp, stq]; done))
    exact ends_some ⟨.inl rfl, _, rfl, rfl⟩
  · obtain ⟨q, e1, h1, hq, _, hn⟩ := supV_form a b c
    obtain rfl := hn h
    rw [h1] at c1 c2
    have hbl := blk_len 1 1 q hq
    have c6 : cf (evFn cx0 ext0 999) 12 [.v (.int .i64 1), .v (.int .u32 1), .agg (u8l q)] = _ := rPut_ev (n := 999) (by omega) 1 1 (by omega) q hq
    rw [show putV 1 1 q = .tup [.agg (u8l (blk 1 1 q)), .v (.int .i64 0)] from if_pos (by unfold mayK; omega)] at c6
    rw [show fmtV a b c = .tup [.agg (u8l (zero 64)), .v (.int .i64 2)] from if_neg h] at c5
    obtain ⟨w, hwd⟩ : ∃ w, w = blk 1 1 q := ⟨_, rfl⟩
    rw [← hwd] at c6 hbl
    have n0 : ((2 : Int) != 0) = true := rfl
    have e1 := (eq_a hB (P := Try.prog) (a := zero 64) (b := zero 64) zl zl).1
    have e3 := (eq_a hL (P := Try.prog) (a := q) (b := q) hq hq).1
    have stq := (And.intro (box_g) (And.intro (box_agg) (And.intro (aB) (And.intro (aL) (And.intro (al_g) (And.intro (lB) (And.intro (lL) (And.intro (sB) (And.intro (sL) (And.intro (lg) (And.intro (sgN) (And.intro (sgM) (And.intro (lgN) (And.intro (lgM) (And.intro (zl) (And.intro (zl4) (And.intro (hp) (And.intro (hq) (And.intro (hbl) (And.intro (frz_agg) (And.intro (frz_g) (And.intro (c1) (And.intro (c2) (And.intro (c3) (And.intro (c4) (And.intro (c5) (And.intro (c6) (And.intro (e1) (And.intro (e3) (And.intro (bb) (And.intro (bi) (And.intro (n0) (And.intro (zB) (And.intro (eq_g) (And.intro (tt) (hw))))))))))))))))))))))))))))))))))))
    repeat first
      | ((with_reducible apply ends_bind); case h => first | (simp only [stp, stq]; first | done | rfl) | rfl)
      | ((with_reducible apply ends_t); case h => first | rfl | (simp only [stp, stq]; done))
      | ((with_reducible apply ends_f); case h => first | rfl | (simp only [stp, stq]; done))
    exact ends_some ⟨.inl rfl, _, rfl, rfl⟩
theorem fits_geom {l : List AV} (h : ShFits [.int .i64, .int .i64, .int .i64] l) : ∃ x : Int × Int × Int, True ∧ l = [.v (.int .i64 x.1), .v (.int .i64 x.2.1), .v (.int .i64 x.2.2)] := by
  match l, h with
  | [a, b, c], h =>
    obtain ⟨a, rfl, _⟩ := fit_i64 (h.2 0 a _ rfl rfl)
    obtain ⟨b, rfl, _⟩ := fit_i64 (h.2 1 b _ rfl rfl)
    obtain ⟨c, rfl, _⟩ := fit_i64 (h.2 2 c _ rfl rfl)
    exact ⟨(a, b, c), trivial, rfl⟩
  | [], h => simp [ShFits] at h
  | [_], h => simp [ShFits] at h
  | [_, _], h => simp [ShFits] at h
  | _ :: _ :: _ :: _ :: _, h => simp [ShFits] at h
end Go.Sy
