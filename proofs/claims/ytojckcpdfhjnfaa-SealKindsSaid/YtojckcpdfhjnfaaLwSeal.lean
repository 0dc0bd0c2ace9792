/-
  Layer 07's laws as the reader reads them.
-/
import Derived.Test.YtojckcpdfhjnfaaLwSealW
namespace Go.Sy
open Go.Proofs Num Crc Seal

theorem beq_b (p q : Bool) : binA Try.prog .eql 4 (.v (.bool p)) (.v (.bool q)) = some (.v (.bool (p == q))) ∧ binA Try.prog .neq 4 (.v (.bool p)) (.v (.bool q)) = some (.v (.bool (!(p == q)))) := by
  cases p <;> cases q <;> exact ⟨by kernel_rfl, by kernel_rfl⟩
theorem putV_form (k : Int) (t : Nat) (p : List UInt8) (hp : p.length = 54) : ∃ q e, putV k t p = .tup [.agg (u8l q), .v (.int .i64 e)] ∧ q.length = 64 := by
  unfold putV
  split
  · exact ⟨_, _, rfl, blk_len _ _ _ hp⟩
  · exact ⟨_, _, rfl, rfl⟩
theorem gotV_form (k : Int) (b : List UInt8) (hb : b.length = 64) : ∃ p t e, gotV k b = .tup [.agg (u8l p), .v (.int .u32 t), .v (.int .i64 e)] ∧ p.length = 54 := by
  unfold gotV
  split
  · split
    · exact ⟨_, _, _, rfl, ld_len b hb⟩
    · exact ⟨_, _, _, rfl, rfl⟩
  · exact ⟨_, _, _, rfl, rfl⟩

theorem puts_ev (k : Int) (t : Nat) (ht : t < 4294967296) (p b : List UInt8) (hp : p.length = 54) (hb : b.length = 64) : cf (evFn cx0 ext0 1000) 3 [.v (.int .i64 k), .v (.int .u32 t), .agg (u8l p), .agg (u8l b)] = some (.v (.bool true)) := by
  have hw := works_at 999 (by omega)
  have c1 := Put_ev (n := 999) (by omega) k t ht p hp
  have c2 := rPut_ev (n := 999) (by omega) k t ht p hp
  have c3 := Get_ev (n := 999) (by omega) k b hb
  have c4 := rGet_ev (n := 999) (by omega) k b hb
  have c5 := Kind_ev (n := 999) (by omega) b hb
  have c6 := rKind_ev (n := 999) (by omega) b hb
  obtain ⟨q, e, h1, hq⟩ := putV_form k t p hp
  obtain ⟨p', t', e', h2, hp'⟩ := gotV_form k b hb
  rw [h1] at c1 c2
  rw [h2] at c3 c4
  have lB := lds hB
  have lL := lds hL
  have sB := sts hB
  have sL := sts hL
  have aB := al_a hB
  have aL := al_a hL
  have zl : (zero 64).length = 64 := rfl
  have zl4 : (zero 54).length = 54 := rfl
  have e1 := eq_a hB (a := q) (b := q) hq hq
  have e2 := eq_a hL (a := p') (b := p') hp' hp'
  have bb : ∀ l : List UInt8, (l == l) = true := fun l => by simp
  unfold cf
  rw [E_l07_SealPuts]
  refine ends_cf (P := Try.prog) ?_
  unfold F_l07_SealPuts
  have stq := (And.intro (box_agg) (And.intro (aB) (And.intro (aL) (And.intro (lB) (And.intro (lL) (And.intro (sB) (And.intro (sL) (And.intro (zl) (And.intro (zl4) (And.intro (hp) (And.intro (hb) (And.intro (hq) (And.intro (hp') (And.intro (frz_agg) (And.intro (c1) (And.intro (c2) (And.intro (c3) (And.intro (c4) (And.intro (c5) (And.intro (c6) (And.intro (e1) (And.intro (e2) (And.intro (bb) (hw))))))))))))))))))))))))
  repeat first
    | ((with_reducible apply ends_bind); case h => first | (simp only [stp, stq]; first | done | rfl) | rfl)
    | ((with_reducible apply ends_t); case h => first | rfl | (simp only [stp, stq]; done))
    | ((with_reducible apply ends_f); case h => first | rfl | (simp only [stp, stq]; done))
  exact ends_some ⟨.inl rfl, _, rfl, rfl⟩

theorem same_self (b : List UInt8) : sameV b b = true := by
  unfold sameV
  rw [if_pos rfl]
  split <;> simp
theorem nexts_ev (k : Int) (was p b : List UInt8) (hw1 : was.length = 64) (hp : p.length = 54) (hb : b.length = 64) : cf (evFn cx0 ext0 1000) 7 [.v (.int .i64 k), .agg (u8l was), .agg (u8l p), .agg (u8l b)] = some (.v (.bool true)) := by
  have hw := works_at 999 (by omega)
  have c1 := Next_ev (n := 999) (by omega) k was hw1 p hp
  have c2 := rNext_ev (n := 999) (by omega) k was hw1 p hp
  obtain ⟨q, e, h1, hq⟩ := putV_form k (nxtT was) p hp
  rw [h1] at c1 c2
  have c3 := Same_ev (n := 999) (by omega) was b hw1 hb
  have c4 := rSame_ev (n := 999) (by omega) was b hw1 hb
  have c5 := Same_ev (n := 999) (by omega) q q hq hq
  have c6 := Same_ev (n := 999) (by omega) b b hb hb
  rw [same_self] at c5 c6
  have lB := lds hB
  have lL := lds hL
  have sB := sts hB
  have aB := al_a hB
  have zl : (zero 64).length = 64 := rfl
  have e1 := eq_a hB (a := q) (b := q) hq hq
  have bb : ∀ l : List UInt8, (l == l) = true := fun l => by simp
  have b2 : ∀ x : Bool, (x == x) = true := fun x => by simp
  unfold cf
  rw [E_l07_SealNexts]
  refine ends_cf (P := Try.prog) ?_
  unfold F_l07_SealNexts
  have stq := (And.intro (box_agg) (And.intro (aB) (And.intro (lB) (And.intro (lL) (And.intro (sB) (And.intro (zl) (And.intro (hw1) (And.intro (hp) (And.intro (hb) (And.intro (hq) (And.intro (frz_agg) (And.intro (c1) (And.intro (c2) (And.intro (c3) (And.intro (c4) (And.intro (c5) (And.intro (c6) (And.intro (e1) (And.intro (bb) (And.intro (b2) (And.intro (beq_b) (hw))))))))))))))))))))))
  repeat first
    | ((with_reducible apply ends_bind); case h => first | (simp only [stp, stq]; first | done | rfl) | rfl)
    | ((with_reducible apply ends_t); case h => first | rfl | (simp only [stp, stq]; done))
    | ((with_reducible apply ends_f); case h => first | rfl | (simp only [stp, stq]; done))
  exact ends_some ⟨.inl rfl, _, rfl, rfl⟩

theorem back_ev (k : Int) (t : Nat) (ht : t < 4294967296) (p : List UInt8) (hp : p.length = 54) : cf (evFn cx0 ext0 1000) 4 [.v (.int .i64 k), .v (.int .u32 t), .agg (u8l p)] = some (.v (.bool true)) := by
  have hw := works_at 999 (by omega)
  have c1 := Put_ev (n := 999) (by omega) k t ht p hp
  have lB := lds hB
  have lL := lds hL
  have sB := sts hB
  have sL := sts hL
  have aB := al_a hB
  have aL := al_a hL
  have zB := z_a hB
  have zl : (zero 64).length = 64 := rfl
  have zl4 : (zero 54).length = 54 := rfl
  have bb : ∀ l : List UInt8, (l == l) = true := fun l => by simp
  unfold cf
  rw [E_l07_SealBack]
  refine ends_cf (P := Try.prog) ?_
  unfold F_l07_SealBack
  by_cases hk : mayK k
  · rw [show putV k t p = _ from if_pos hk] at c1
    have hk' := hk
    unfold mayK at hk'
    obtain ⟨j, rfl⟩ : ∃ j : Nat, k = j := ⟨k.toNat, by omega⟩
    simp only [Int.toNat_natCast] at c1
    have bl := blk_len j t p hp
    obtain ⟨h1, h2, h3, h4⟩ := blk_parts j t p hp hk ht
    have c2 := Get_ev (n := 999) (by omega) j (blk j t p) bl
    rw [show gotV (j : Int) (blk j t p) = .tup [.agg (u8l p), .v (.int .u32 t), .v (.int .i64 0)] by unfold gotV; rw [if_pos hk, if_pos ⟨by rw [h2], h4⟩, h1, h3]] at c2
    have c3 := Kind_ev (n := 999) (by omega) (blk j t p) bl
    rw [show kindV (blk j t p) = j by unfold kindV; rw [h4, if_pos rfl, h2]] at c3
    have e2 := eq_a hL (a := p) (b := p) hp hp
    have q0 : ((0 : Int) != 0) = false := rfl
    have stq := (And.intro (box_agg) (And.intro (aB) (And.intro (aL) (And.intro (lB) (And.intro (lL) (And.intro (sB) (And.intro (sL) (And.intro (zl) (And.intro (zl4) (And.intro (hp) (And.intro (bl) (And.intro (frz_agg) (And.intro (n_tf) (And.intro (c1) (And.intro (c2) (And.intro (c3) (And.intro (e2) (And.intro (bb) (And.intro (q0) (hw))))))))))))))))))))
    repeat first
      | ((with_reducible apply ends_bind); case h => first | (simp only [stp, stq]; first | done | rfl) | rfl)
      | ((with_reducible apply ends_t); case h => first | rfl | (simp only [stp, stq]; done))
      | ((with_reducible apply ends_f); case h => first | rfl | (simp only [stp, stq]; done))
    exact ends_some ⟨.inl rfl, _, rfl, rfl⟩
  · rw [show putV k t p = _ from if_neg hk] at c1
    have c2 := Get_ev (n := 999) (by omega) k (zero 64) zl
    rw [show gotV k (zero 64) = _ from if_neg hk] at c2
    have e2 := eq_a hB (a := zero 64) (b := zero 64) zl zl
    have q0 : ((2 : Int) != 0) = true := rfl
    have stq := (And.intro (box_agg) (And.intro (aB) (And.intro (aL) (And.intro (lB) (And.intro (lL) (And.intro (sB) (And.intro (sL) (And.intro (zl) (And.intro (zl4) (And.intro (hp) (And.intro (frz_agg) (And.intro (n_tf) (And.intro (c1) (And.intro (c2) (And.intro (e2) (And.intro (bb) (And.intro (q0) (And.intro (zB) (hw)))))))))))))))))))
    repeat first
      | ((with_reducible apply ends_bind); case h => first | (simp only [stp, stq]; first | done | rfl) | rfl)
      | ((with_reducible apply ends_t); case h => first | rfl | (simp only [stp, stq]; done))
      | ((with_reducible apply ends_f); case h => first | rfl | (simp only [stp, stq]; done))
    exact ends_some ⟨.inl rfl, _, rfl, rfl⟩

theorem le_inj {a b : List UInt8} (ha : a.length = 4) (hb : b.length = 4) (h : le a = le b) : a = b := by
  rw [← q32_le a ha, ← q32_le b hb, h]

theorem set_split (b : List UInt8) (i : Nat) (hi : i < b.length) (z : UInt8) : b.set i z = b.take i ++ z :: b.drop (i + 1) ∧ b = b.take i ++ b[i] :: b.drop (i + 1) := by
  refine ⟨by rw [List.set_eq_take_append_cons_drop, if_pos hi], ?_⟩
  rw [← List.drop_eq_getElem_cons hi, List.take_append_drop]

/-- one byte turned -/
theorem one_plain (b : List UInt8) (hb : b.length = 64) (hr : right b = true) (i : Nat) (hi : i < 64) (z : UInt8) (hz : z ≠ b[i]'(by omega)) : right (b.set i z) = false := by
  have hs : sm b = crc (b.take 60) := by
    unfold right at hr
    rw [Bool.and_eq_true] at hr
    exact (of_decide_eq_true hr.2).2
  cases h : right (b.set i z) with
  | false => rfl
  | true =>
    exfalso
    have hs' : sm (b.set i z) = crc ((b.set i z).take 60) := by
      unfold right at h
      rw [Bool.and_eq_true] at h
      exact (of_decide_eq_true h.2).2
    by_cases h60 : i < 60
    · have e1 : sm (b.set i z) = sm b := by
        unfold sm
        rw [List.drop_set_of_lt h60]
      rw [e1, hs] at hs'
      have e2 : (b.set i z).take 60 = (b.take 60).set i z := by rw [List.take_set]
      rw [e2] at hs'
      have hl : i < (b.take 60).length := by rw [List.length_take]; omega
      obtain ⟨s1, s2⟩ := set_split (b.take 60) i hl z
      have hsum : sum (b.take 60) = sum ((b.take 60).set i z) := BitVec.eq_of_toNat_eq hs'
      rw [s1] at hsum
      rw [s2] at hsum
      have e3 : ((b.take 60).take i ++ (b.take 60)[i] :: (b.take 60).drop (i + 1)).take i = (b.take 60).take i := by rw [← s2]
      have e4 : ((b.take 60).take i ++ (b.take 60)[i] :: (b.take 60).drop (i + 1)).drop (i + 1) = (b.take 60).drop (i + 1) := by rw [← s2]
      have hsum' : sum ((b.take 60).take i ++ (b.take 60)[i] :: (b.take 60).drop (i + 1)) = sum ((b.take 60).take i ++ z :: (b.take 60).drop (i + 1)) := by
        rw [e3, e4] at hsum
        exact hsum
      have := sum_one _ _ _ _ hsum'
      rw [List.getElem_take] at this
      exact hz this.symm
    · have e1 : (b.set i z).take 60 = b.take 60 := by rw [List.take_set_of_le (by omega)]
      rw [e1, ← hs] at hs'
      unfold sm at hs'
      have := le_inj (by simp [hb]) (by simp [hb]) hs'
      have g := congrArg (fun l => l[i - 60]?) this
      simp only [List.getElem?_take, List.getElem?_drop] at g
      rw [if_pos (by omega), if_pos (by omega), show 60 + (i - 60) = i by omega, List.getElem?_set_self (by omega), List.getElem?_eq_getElem (by omega)] at g
      exact hz (by simpa using g)

theorem one_ev (k : UInt8) (t : Nat) (ht : t < 4294967296) (p : List UInt8) (hp : p.length = 54) (at_ y : UInt8) : cf (evFn cx0 ext0 1000) 5 [u8 k, .v (.int .u32 t), .agg (u8l p), u8 at_, u8 y] = some (.v (.bool true)) := by
  have hw := works_at 999 (by omega)
  have hk8 := UInt8.toNat_lt k
  have ha8 := UInt8.toNat_lt at_
  have k1 : (k.toNat : Int).tmod 6 = ((k.toNat % 6 : Nat) : Int) := by rw [Int.tmod_eq_emod_of_nonneg (by omega)]; omega
  have cv : ∀ bx, convA Try.prog bx 5 3 (.v (.int .u8 (k.toNat % 6 : Nat))) = some (.v (.int .i64 (k.toNat % 6 : Nat)), bx) := by
    intro bx
    have hq : IntKind.i64.wrap ((k.toNat % 6 : Nat) : Int) = ((k.toNat % 6 : Nat) : Int) := by rw [wrap64]; omega
    rw [cv_8_64, hq]
  have k2 : IntKind.i64.wrap (1 + ((k.toNat % 6 : Nat) : Int)) = ((1 + k.toNat % 6 : Nat) : Int) := by rw [wrap64]; omega
  have hj : mayK ((1 + k.toNat % 6 : Nat) : Int) := by unfold mayK; omega
  generalize 1 + k.toNat % 6 = j at *
  have k3 : (at_.toNat : Int).tmod 64 = ((at_.toNat % 64 : Nat) : Int) := by rw [Int.tmod_eq_emod_of_nonneg (by omega)]; omega
  have hi : at_.toNat % 64 < 64 := by omega
  generalize at_.toNat % 64 = i at *
  have c1 := Put_ev (n := 999) (by omega) j t ht p hp
  rw [show putV (j : Int) t p = _ from if_pos hj] at c1
  simp only [Int.toNat_natCast] at c1
  have bl := blk_len j t p hp
  obtain ⟨h1, h2, h3, h4⟩ := blk_parts j t p hp hj ht
  generalize hbe : blk j t p = b at *
  have lB := lds hB
  have lL := lds hL
  have sB := sts hB
  have aB := al_a hB
  have zl : (zero 64).length = 64 := rfl
  have i1 : indexAddrA Try.prog 26 (.bp 1 0) (.v (.int .u8 i)) = some (.bp 1 i) := by
    have := ix_a hB 1 0 .u8 i hi
    rwa [Nat.zero_add] at this
  have q1 := ld_b8 (P := Try.prog) (t := 5) (by kernel_rfl) (by kernel_rfl) [u8l p, u8l b] 1 i b rfl (by omega)
  have x1 := xor8 (b[i]'(by omega)) y
  have w1 := st_b8 (P := Try.prog) (t := 5) (by kernel_rfl) [u8l p, u8l b] 1 i b (b[i]'(by omega) ^^^ y) rfl (by omega)
  simp only [List.set_cons_succ, List.set_cons_zero] at w1
  have bl' : (b.set i (b[i]'(by omega) ^^^ y)).length = 64 := by rw [List.length_set]; exact bl
  have c3 := Kind_ev (n := 999) (by omega) (b.set i (b[i]'(by omega) ^^^ y)) bl'
  have q0 : ((0 : Int) == 0) = true := rfl
  have fin : ((kindV (b.set i (b[i]'(by omega) ^^^ y)) == 0) == ((y.toNat : Int) != 0)) = true := by
    by_cases hy : y = 0
    · subst hy
      have e : b.set i (b[i]'(by omega) ^^^ 0) = b := by rw [UInt8.xor_zero, List.set_getElem_self]
      rw [e]
      have : kindV b = j := by unfold kindV; rw [h4, if_pos rfl, h2]
      rw [this]
      unfold mayK at hj
      have hj0 : ((j : Int) == 0) = false := by simp; omega
      rw [hj0]
      rfl
    · have hz : b[i]'(by omega) ^^^ y ≠ b[i]'(by omega) := by
        intro h
        have h2 := congrArg (b[i]'(by omega) ^^^ ·) h
        simp only [← UInt8.xor_assoc, UInt8.xor_self, UInt8.zero_xor] at h2
        exact hy h2
      have hf := one_plain b bl h4 i hi _ hz
      have : kindV (b.set i (b[i]'(by omega) ^^^ y)) = 0 := by unfold kindV; rw [hf]; rfl
      rw [this]
      have hy0 : ((y.toNat : Int) != 0) = true := by
        have : y.toNat ≠ 0 := fun h => hy (UInt8.toNat_inj.1 (by simpa using h))
        simp
        omega
      rw [hy0]
      rfl
  unfold cf
  rw [E_l07_SealOne]
  refine ends_cf (P := Try.prog) ?_
  unfold F_l07_SealOne
  have stq := (And.intro (box_agg) (And.intro (aB) (And.intro (lB) (And.intro (lL) (And.intro (sB) (And.intro (zl) (And.intro (hp) (And.intro (bl) (And.intro (bl') (And.intro (frz_agg) (And.intro (n_tf) (And.intro (k1) (And.intro (cv) (And.intro (k2) (And.intro (k3) (And.intro (c1) (And.intro (i1) (And.intro (q1) (And.intro (x1) (And.intro (w1) (And.intro (c3) (And.intro (q0) (And.intro (beq_b) (And.intro (fin) (hw)))))))))))))))))))))))))
  repeat first
    | ((with_reducible apply ends_bind); case h => first | (simp only [stp, stq]; first | done | rfl) | rfl)
    | ((with_reducible apply ends_t); case h => first | rfl | (simp only [stp, stq]; done))
    | ((with_reducible apply ends_f); case h => first | rfl | (simp only [stp, stq]; done))
  exact ends_some ⟨.inl rfl, _, rfl, rfl⟩

theorem kinds_ev (b : List UInt8) (hb : b.length = 64) : cf (evFn cx0 ext0 1000) 6 [.agg (u8l b)] = some (.v (.bool true)) := by
  have hw := works_at 999 (by omega)
  have c5 := Kind_ev (n := 999) (by omega) b hb
  have c6 := rKind_ev (n := 999) (by omega) b hb
  have lB := lds hB
  have sL := sts hL
  have aL := al_a hL
  have zl4 : (zero 54).length = 54 := rfl
  unfold cf
  rw [E_l07_SealKinds]
  refine ends_cf (P := Try.prog) ?_
  unfold F_l07_SealKinds
  have stq := (And.intro (box_agg) (And.intro (lB) (And.intro (hb) (And.intro (frz_agg) (And.intro (c5) (c6))))))
  repeat first
    | ((with_reducible apply ends_bind); case h => first | (simp only [stp, stq]; first | done | rfl) | rfl)
    | ((with_reducible apply ends_t); case h => first | rfl | (simp only [stp, stq]; done))
    | ((with_reducible apply ends_f); case h => first | rfl | (simp only [stp, stq]; done))
  refine ends_loop (fun k s => ∃ (j : Int) (y13 y0 : AV) (c0 : List AV), s = ⟨[(4, .v (.int .i64 j)), (13, y13), (3, .v (.int .i64 (kindV b))), (2, .v (.bool false)), (1, .bp 0 0), (0, y0)], [c0]⟩ ∧ c0 = u8l b ∧ 1 ≤ j ∧ j + k = 7) 6 (by omega) ⟨_, _, _, _, rfl, rfl, by omega, by omega⟩ ?_
  rintro k s ⟨j, y13, y0, c0, rfl, rfl, hj1, hj7⟩
  refine L_l07_SealKinds_0_lit ?_
  unfold B_l07_SealKinds_0
  rcases k with _ | k
  · have g0 : decide (j < 7) = false := decide_eq_false (by omega)
    have stq := (g0)
    repeat first
      | ((with_reducible apply ends_bind); case h => first | (simp only [stp, stq]; first | done | rfl) | rfl)
      | ((with_reducible apply ends_t); case h => first | rfl | (simp only [stp, stq]; done))
      | ((with_reducible apply ends_f); case h => first | rfl | (simp only [stp, stq]; done))
    refine ends_some (.inr (.inl ⟨0, rfl, X_l07_SealKinds_0_0_lit ?_⟩))
    unfold X_l07_SealKinds_0_0
    have stq := (hw)
    repeat first
      | ((with_reducible apply ends_bind); case h => first | (simp only [stp, stq]; first | done | rfl) | rfl)
      | ((with_reducible apply ends_t); case h => first | rfl | (simp only [stp, stq]; done))
      | ((with_reducible apply ends_f); case h => first | rfl | (simp only [stp, stq]; done))
    exact ends_some ⟨.inl rfl, _, rfl, rfl⟩
  · have g0 : decide (j < 7) = true := decide_eq_true (by omega)
    have c1 := Get_ev (n := 999) (by omega) j b hb
    have e3 : IntKind.i64.wrap (j + 1) = j + 1 := by rw [wrap64]; omega
    have tt : (true == true) = true := rfl
    have ff : (false == false) = true := rfl
    rcases gotV_err j b with ⟨⟨p, t, hg, hp⟩, hm, h1, h2⟩ | ⟨⟨e, hg, he⟩, hn2⟩ | hb'
    · rw [hg] at c1
      have q : (j == kindV b) = true := by
        unfold kindV
        rw [h2, if_pos rfl, h1]
        simp
      have stq := (And.intro (g0) (And.intro (lB) (And.intro (hb) (And.intro (frz_agg) (And.intro (c1) (And.intro (aL) (And.intro (sL) (And.intro (zl4) (And.intro (hp) (And.intro (q) (And.intro (beq_b) (And.intro (tt) (And.intro (n_tf) (e3))))))))))))))
      repeat first
        | ((with_reducible apply ends_bind); case h => first | (simp only [stp, stq]; first | done | rfl) | rfl)
        | ((with_reducible apply ends_t); case h => first | rfl | (simp only [stp, stq]; done))
        | ((with_reducible apply ends_f); case h => first | rfl | (simp only [stp, stq]; done))
      exact ends_some (.inl ⟨rfl, k, by omega, j + 1, _, _, _, by first | rfl | (rw [← e3]; rfl), u8l_keep _ _, by omega, by omega⟩)
    · rw [hg] at c1
      have q0 : (e == 0) = false := by simpa using he
      have q : (j == kindV b) = false := by
        rw [beq_eq_false_iff_ne]
        intro h
        rcases kindV_cases b with ⟨h0, _⟩ | ⟨h0, h3, h4, _⟩
        · omega
        · exact hn2 ⟨by unfold mayK; omega, by rw [h, h0], h3⟩
      have stq := (And.intro (g0) (And.intro (lB) (And.intro (hb) (And.intro (frz_agg) (And.intro (c1) (And.intro (aL) (And.intro (sL) (And.intro (zl4) (And.intro (q0) (And.intro (q) (And.intro (beq_b) (And.intro (ff) (And.intro (n_tf) (e3))))))))))))))
      repeat first
        | ((with_reducible apply ends_bind); case h => first | (simp only [stp, stq]; first | done | rfl) | rfl)
        | ((with_reducible apply ends_t); case h => first | rfl | (simp only [stp, stq]; done))
        | ((with_reducible apply ends_f); case h => first | rfl | (simp only [stp, stq]; done))
      exact ends_some (.inl ⟨rfl, k, by omega, j + 1, _, _, _, by first | rfl | (rw [← e3]; rfl), u8l_keep _ _, by omega, by omega⟩)
    · exact (hb' hb).elim
end Go.Sy
