/-
  Layer 15: the law RollTurns as the reader reads it.
-/
import Derived.Test.YtmkdhgigghgieaaLwRollW
import Derived.Test.YtmkdhgigghgieaaPfRoll2
namespace Go.Sy
open Go.Proofs Num Crc Seal

def pb (k : Nat) : List AV := [.v (.int .i64 0), .v (.int .i64 0), .v (.int .i64 0), .bsl 1 0 54 1, .v (.int .i64 k), .v (.slice none 0 0), .v (.int .i64 0), .v (.int .i64 0), .v (.bool false)]
theorem b_pb (k : Nat) : buildA Try.prog 34 [(4, .v (.int .i64 k)), (3, .bsl 1 0 54 1)] = some (.agg (pb k)) := by kernel_rfl
theorem bs_pb (A B C : List AV) (k : Nat) : buildSliceA Try.prog [A, B, C] 24 1 [(0, .agg (pb k))] = some (.bsl 3 0 1 9, [A, B, C, pb k]) := by kernel_rfl
theorem frz_pb (A C : List AV) (k : Nat) (p : List UInt8) (hp : p.length = 54) : frz [A, u8l p, C, pb k] true 6 (.bsl 3 0 1 9) = .sl 1 (pc 0 k p) true := by
  have h : frz [A, u8l p, C, pb k] true 5 (.bsl 1 0 54 1) = byt true ((p.drop 0).take 54) := frz_bo (b := p) (d := 3) true rfl (by omega)
  rw [List.drop_zero, List.take_of_length_le (by omega)] at h
  show AV.sl 1 [AV.v (.int .i64 0), .v (.int .i64 0), .v (.int .i64 0), frz [A, u8l p, C, pb k] true 5 (.bsl 1 0 54 1), .v (.int .i64 k), .v (.slice none 0 0), .v (.int .i64 0), .v (.int .i64 0), .v (.bool false)] true = _
  rw [h]
  rfl
theorem turns_ev (b : List UInt8) (hb : b.length = 64) (sl : UInt8) (p : List UInt8) (hp : p.length = 54) : cf (evFn cx0 ext0 1000) 4 [.agg (u8l b), u8 sl, .agg (u8l p)] = some (.v (.bool true)) := by
  have hw := works_at 999 (by omega)
  have k1 : (sl.toNat : Int).tmod 6 = ((sl.toNat % 6 : Nat) : Int) := by rw [Int.tmod_eq_emod_of_nonneg (by omega)]; omega
  have k2 : IntKind.i64.wrap ((sl.toNat % 6 : Nat) : Int) = ((sl.toNat % 6 : Nat) : Int) := by rw [wrap64]; omega
  have hk : sl.toNat % 6 < 6 := by omega
  generalize sl.toNat % 6 = k6 at *
  have cv : ∀ bx, convA Try.prog bx 5 3 (.v (.int .u8 (k6 : Int))) = some (.v (.int .i64 k6), bx) := by
    intro bx
    rw [cv_8_64, k2]
  have k3 : IntKind.i64.wrap (1 + (k6 : Int)) = ((1 + k6 : Nat) : Int) := by rw [wrap64]; omega
  have hm : mayK ((1 + k6 : Nat) : Int) := by unfold mayK; omega
  generalize 1 + k6 = k at *
  have ht : nxtT b < 4294967296 := by
    unfold nxtT
    split <;> omega
  obtain ⟨q1, q2, q3, q4⟩ := blk_parts k (nxtT b) p hp hm ht
  obtain ⟨q, tq, eq, hgq, hq⟩ := gotV_form k b hb
  have c1 := Now_ev (n := 999) (by omega) 0 k hm b hb p (by omega) hgq hq
  rw [lq_all q p hq hp] at c1
  have hbl := blk_len k (nxtT b) p hp
  have hg : gotV k (blk k (nxtT b) p) = .tup [.agg (u8l p), .v (.int .u32 (nxtT b)), .v (.int .i64 0)] := by
    unfold gotV
    rw [if_pos hm, if_pos ⟨by rw [q2], q4⟩, q1, q3]
  have c2 := rGet_ev (n := 999) (by omega) k (blk k (nxtT b) p) hbl
  rw [hg] at c2
  have c3 := Turn_ev (n := 999) (by omega) b hb
  have c4 := rTurn_ev (n := 999) (by omega) b hb
  obtain ⟨z, t, e, hz, hzl⟩ := gotV_form k b hb
  have c5 := Load_ev (n := 999) (by omega) k b hb hz hzl
  have c6 := rLoad_ev (n := 999) (by omega) k b hb hz hzl
  have c7 := Load_ev (n := 999) (by omega) k (blk k (nxtT b) p) hbl hg hp
  generalize blk k (nxtT b) p = B at *
  have lB := lds hB
  have lL := lds hL
  have sB := sts hB
  have sL := sts hL
  have aB := al_a hB
  have aL := al_a hL
  have zl : (zero 54).length = 54 := rfl
  have zl6 : (zero 64).length = 64 := rfl
  have s1 : sliceA Try.prog [u8l b, u8l p, u8l (zero 64)] 38 (.bp 1 0) none none none = some (.bsl 1 0 54 1) := sl_a hL (k := 1) (b := p) rfl hp
  have p1 := b_pb k
  have p2 := fun A B C => bs_pb A B C k
  have p3 := fun A C => frz_pb A C k p hp
  have e1 := (eq_a hL (a := z) (b := z) hzl hzl).1
  have e2 := (eq_a hL (a := p) (b := p) hp hp).1
  have bb : ∀ l : List UInt8, (l == l) = true := fun l => by simp
  unfold cf
  rw [E_l15_RollTurns]
  refine ends_cf (P := Try.prog) ?_
  unfold F_l15_RollTurns
  have stq := (And.intro (box_agg) (And.intro (k1) (And.intro (cv) (And.intro (k3) (And.intro (aB) (And.intro (aL) (And.intro (lB) (And.intro (lL) (And.intro (sB) (And.intro (sL) (And.intro (hb) (And.intro (hp) (And.intro (hbl) (And.intro (zl) (And.intro (zl6) (And.intro (frz_agg) (And.intro (s1) (And.intro (p1) (And.intro (p2) (And.intro (p3) (And.intro (c1) (And.intro (c2) (And.intro (c3) (And.intro (c4) (And.intro (c5) (And.intro (c6) (And.intro (c7) (And.intro (hzl) (And.intro (e1) (And.intro (e2) (And.intro (bb) (hw))))))))))))))))))))))))))))))))
  repeat first
    | ((with_reducible apply ends_bind); case h => first | (simp only [stp, stq]; first | done | rfl) | rfl)
    | ((with_reducible apply ends_t); case h => first | rfl | (simp only [stp, stq]; done))
    | ((with_reducible apply ends_f); case h => first | rfl | (simp only [stp, stq]; done))
  exact ends_some ⟨.inl rfl, _, rfl, rfl⟩
end Go.Sy
