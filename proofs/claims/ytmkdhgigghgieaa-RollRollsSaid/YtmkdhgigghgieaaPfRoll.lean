/-
  Layer 15: loads and turns of sealed bytes; one patch rolled over bytes.
-/
import Derived.Test.YtmkdhgigghgieaaPfSeal
namespace Go.Sy
open Go.Proofs Num Crc Seal

theorem retq_c {P : Program} {a t : Nat} {env : Env} {bx : Bx} {x x' : AV} (hl : loadA P t bx (get env a) = some x) (hx : frz bx false 6 x = x') : RetQ P [.cell a t] x' .ret ⟨env, bx⟩ := by
  refine ⟨.inl rfl, [x], ?_, hx⟩
  simp only [resL, hl, Option.bind_some, Option.map_some]
theorem gotV_form (k : Int) (b : List UInt8) (hb : b.length = 64) : ∃ (p : List UInt8) (t e : Int), gotV k b = .tup [.agg (u8l p), .v (.int .u32 t), .v (.int .i64 e)] ∧ p.length = 54 := by
  unfold gotV
  split
  · split
    · exact ⟨_, _, _, rfl, ld_len b hb⟩
    · exact ⟨_, _, _, rfl, rfl⟩
  · exact ⟨_, _, _, rfl, rfl⟩
theorem Load_ev {n : Nat} (hn : 440 ≤ n) (k : Int) (b : List UInt8) (hb : b.length = 64) {p : List UInt8} {t e : Int} (hg : gotV k b = .tup [.agg (u8l p), .v (.int .u32 t), .v (.int .i64 e)]) (hp : p.length = 54) :
    cf (evFn cx0 ext0 n) 15 [.agg (u8l b), .v (.int .i64 k)] = some (.agg (u8l p)) := by
  obtain ⟨m, rfl⟩ : ∃ m, n = m + 1 := ⟨n - 1, by omega⟩
  have c1 := Get_ev (n := m) (by omega) k b hb
  rw [hg] at c1
  have lB := lds hB
  have lL := lds hL
  have sL := sts hL
  have aL := al_a hL
  have zl : (zero 54).length = 54 := rfl
  unfold cf
  rw [E_roll_Load]
  refine ends_cf (P := Try.prog) ?_
  unfold F_roll_Load
  have stq := (And.intro (box_agg) (And.intro (aL) (And.intro (lB) (And.intro (lL) (And.intro (sL) (And.intro (hb) (And.intro (hp) (And.intro (zl) (And.intro (frz_agg) (c1))))))))))
  repeat first
    | ((with_reducible apply ends_bind); case h => first | (simp only [stp, stq]; first | done | rfl) | rfl)
    | ((with_reducible apply ends_t); case h => first | rfl | (simp only [stp, stq]; done))
    | ((with_reducible apply ends_f); case h => first | rfl | (simp only [stp, stq]; done))
  exact ends_some (retq_c (ld_a hL (b := p) rfl hp) (frz_agg _ _ _ _))
theorem rLoad_ev {n : Nat} (hn : 440 ≤ n) (k : Int) (b : List UInt8) (hb : b.length = 64) {p : List UInt8} {t e : Int} (hg : gotV k b = .tup [.agg (u8l p), .v (.int .u32 t), .v (.int .i64 e)]) (hp : p.length = 54) :
    cf (evFn cx0 ext0 n) 16 [.agg (u8l b), .v (.int .i64 k)] = some (.agg (u8l p)) := by
  obtain ⟨m, rfl⟩ : ∃ m, n = m + 1 := ⟨n - 1, by omega⟩
  have c1 := rGet_ev (n := m) (by omega) k b hb
  rw [hg] at c1
  have lB := lds hB
  have lL := lds hL
  have sL := sts hL
  have aL := al_a hL
  have zl : (zero 54).length = 54 := rfl
  unfold cf
  rw [E_r15_Load]
  refine ends_cf (P := Try.prog) ?_
  unfold F_r15_Load
  have stq := (And.intro (box_agg) (And.intro (aL) (And.intro (lB) (And.intro (lL) (And.intro (sL) (And.intro (hb) (And.intro (hp) (And.intro (zl) (And.intro (frz_agg) (c1))))))))))
  repeat first
    | ((with_reducible apply ends_bind); case h => first | (simp only [stp, stq]; first | done | rfl) | rfl)
    | ((with_reducible apply ends_t); case h => first | rfl | (simp only [stp, stq]; done))
    | ((with_reducible apply ends_f); case h => first | rfl | (simp only [stp, stq]; done))
  exact ends_some (retq_c (ld_a hL (b := p) rfl hp) (frz_agg _ _ _ _))
theorem got_turn (b : List UInt8) (hb : b.length = 64) : ∃ (p : List UInt8) (t e : Int), gotV (kindV b) b = .tup [.agg (u8l p), .v (.int .u32 t), .v (.int .i64 e)] ∧ p.length = 54 ∧ IntKind.u32.wrap (t + 1) = (nxtT b : Int) := by
  rcases kindV_cases b with ⟨h1, h2⟩ | ⟨h1, h2, h3, _⟩
  · rw [h1]
    unfold gotV
    rw [if_neg (by unfold mayK; omega)]
    refine ⟨_, _, _, rfl, rfl, ?_⟩
    unfold nxtT
    rw [h2]
    rfl
  · rw [h1]
    unfold gotV
    rw [if_pos h3, if_pos ⟨rfl, h2⟩]
    refine ⟨_, _, _, rfl, ld_len b hb, ?_⟩
    unfold nxtT
    rw [h2, if_pos rfl, wrap32]
    omega
theorem Turn_ev {n : Nat} (hn : 450 ≤ n) (b : List UInt8) (hb : b.length = 64) : cf (evFn cx0 ext0 n) 13 [.agg (u8l b)] = some (.v (.int .u32 (nxtT b))) := by
  obtain ⟨m, rfl⟩ : ∃ m, n = m + 1 := ⟨n - 1, by omega⟩
  obtain ⟨p, t, e, hg, hp, ht⟩ := got_turn b hb
  have c1 := Get_ev (n := m) (by omega) (kindV b) b hb
  have c2 := Kind_ev (n := m) (by omega) b hb
  rw [hg] at c1
  have lB := lds hB
  have sL := sts hL
  have aL := al_a hL
  have zl : (zero 54).length = 54 := rfl
  unfold cf
  rw [E_roll_Turn]
  refine ends_cf (P := Try.prog) ?_
  unfold F_roll_Turn
  have stq := (And.intro (box_agg) (And.intro (aL) (And.intro (lB) (And.intro (sL) (And.intro (hb) (And.intro (hp) (And.intro (zl) (And.intro (frz_agg) (And.intro (c1) (And.intro (c2) (ht)))))))))))
  repeat first
    | ((with_reducible apply ends_bind); case h => first | (simp only [stp, stq]; first | done | rfl) | rfl)
    | ((with_reducible apply ends_t); case h => first | rfl | (simp only [stp, stq]; done))
    | ((with_reducible apply ends_f); case h => first | rfl | (simp only [stp, stq]; done))
  exact ends_some ⟨.inl rfl, _, rfl, rfl⟩
theorem rTurn_ev {n : Nat} (hn : 450 ≤ n) (b : List UInt8) (hb : b.length = 64) : cf (evFn cx0 ext0 n) 14 [.agg (u8l b)] = some (.v (.int .u32 (nxtT b))) := by
  obtain ⟨m, rfl⟩ : ∃ m, n = m + 1 := ⟨n - 1, by omega⟩
  obtain ⟨p, t, e, hg, hp, ht⟩ := got_turn b hb
  have c1 := rGet_ev (n := m) (by omega) (kindV b) b hb
  have c2 := rKind_ev (n := m) (by omega) b hb
  rw [hg] at c1
  have lB := lds hB
  have sL := sts hL
  have aL := al_a hL
  have zl : (zero 54).length = 54 := rfl
  unfold cf
  rw [E_r15_Turn]
  refine ends_cf (P := Try.prog) ?_
  unfold F_r15_Turn
  rcases kindV_cases b with ⟨h1, h2⟩ | ⟨h1, h2, h3, h4⟩
  · rw [h1] at c2
    rw [show nxtT b = 1 by unfold nxtT; rw [h2]; rfl]
    have z : ((0 : Int) == 0) = true := rfl
    have stq := (And.intro (box_agg) (And.intro (lB) (And.intro (hb) (And.intro (frz_agg) (And.intro (c2) (z))))))
    repeat first
      | ((with_reducible apply ends_bind); case h => first | (simp only [stp, stq]; first | done | rfl) | rfl)
      | ((with_reducible apply ends_t); case h => first | rfl | (simp only [stp, stq]; done))
      | ((with_reducible apply ends_f); case h => first | rfl | (simp only [stp, stq]; done))
    exact ends_some ⟨.inl rfl, _, rfl, rfl⟩
  · have z : (kindV b == 0) = false := by rw [h1]; simpa using h4
    have stq := (And.intro (box_agg) (And.intro (aL) (And.intro (lB) (And.intro (sL) (And.intro (hb) (And.intro (hp) (And.intro (zl) (And.intro (frz_agg) (And.intro (c1) (And.intro (c2) (And.intro (ht) (z))))))))))))
    repeat first
      | ((with_reducible apply ends_bind); case h => first | (simp only [stp, stq]; first | done | rfl) | rfl)
      | ((with_reducible apply ends_t); case h => first | rfl | (simp only [stp, stq]; done))
      | ((with_reducible apply ends_f); case h => first | rfl | (simp only [stp, stq]; done))
    exact ends_some ⟨.inl rfl, _, rfl, rfl⟩

/-! ## one patch -/
def pc (o k : Nat) (p : List UInt8) : List AV := [.v (.int .i64 0), .v (.int .i64 0), .v (.int .i64 o), byt true p, .v (.int .i64 k), .v (.slice none 0 0), .v (.int .i64 0), .v (.int .i64 0), .v (.bool false)]
theorem fa_pc (j : Nat) : fieldAddrA Try.prog 34 (.bp j 0) 0 = some (.bp j 0) ∧ fieldAddrA Try.prog 34 (.bp j 0) 2 = some (.bp j 2) ∧ fieldAddrA Try.prog 34 (.bp j 0) 3 = some (.bp j 3) ∧ fieldAddrA Try.prog 34 (.bp j 0) 4 = some (.bp j 4) := ⟨by kernel_rfl, by kernel_rfl, by kernel_rfl, by kernel_rfl⟩
theorem ld_pc (A : List AV) (o k : Nat) (p : List UInt8) (r : Bx) : loadA Try.prog 31 (A :: pc o k p :: r) (.bp 1 3) = some (byt true p) ∧ loadA Try.prog 3 (A :: pc o k p :: r) (.bp 1 4) = some (.v (.int .i64 k)) ∧ loadA Try.prog 3 (A :: pc o k p :: r) (.bp 1 2) = some (.v (.int .i64 o)) := ⟨by kernel_rfl, by kernel_rfl, by kernel_rfl⟩
theorem room_ev (m : Nat) (k : Nat) (h : 0 < k) : cf (evFn cx0 ext0 (m + 1)) 40 [.v (.int .i64 k)] = some (.v (.int .i64 54)) := by
  have z : ((k : Int) == 0) = false := by simp; omega
  unfold cf
  rw [E_roll_room]
  refine ends_cf (P := Try.prog) ?_
  unfold F_roll_room
  have stq := (z)
  repeat first
    | ((with_reducible apply ends_bind); case h => first | (simp only [stp, stq]; first | done | rfl) | rfl)
    | ((with_reducible apply ends_t); case h => first | rfl | (simp only [stp, stq]; done))
    | ((with_reducible apply ends_f); case h => first | rfl | (simp only [stp, stq]; done))
  exact ends_some ⟨.inl rfl, _, rfl, rfl⟩
/-- a load over which a patch is laid -/
def lq (o : Nat) (q p : List UInt8) : List UInt8 := q.take o ++ p ++ q.drop (o + p.length)
theorem lq_len (o : Nat) (q p : List UInt8) (hq : q.length = 54) (h : o + p.length ≤ 54) : (lq o q p).length = 54 := by
  unfold lq
  rw [List.length_append, List.length_append, List.length_take, List.length_drop, hq]
  omega
theorem lq_all (q p : List UInt8) (hq : q.length = 54) (hp : p.length = 54) : lq 0 q p = p := by
  unfold lq
  rw [List.drop_eq_nil_of_le (by omega)]
  simp
theorem Lay_ev {n : Nat} (hn : 460 ≤ n) (o k : Nat) (hk : mayK k) (b : List UInt8) (hb : b.length = 64) (p : List UInt8) (hp : o + p.length ≤ 54) (t : Nat) (ht : t < 4294967296) {q : List UInt8} {t' e' : Int}
    (hg : gotV k b = .tup [.agg (u8l q), .v (.int .u32 t'), .v (.int .i64 e')]) (hq : q.length = 54) :
    cf (evFn cx0 ext0 n) 25 [.agg (u8l b), .agg (pc o k p), .v (.int .u32 t)] = some (.tup [.agg (u8l (blk k t (lq o q p))), .v (.int .i64 0)]) := by
  obtain ⟨m, rfl⟩ : ∃ m, n = m + 2 := ⟨n - 2, by omega⟩
  have hl := lq_len o q p hq hp
  have c1 : cf (evFn cx0 ext0 (m + 1)) 40 [.v (.int .i64 k)] = _ := room_ev m k (by unfold mayK at hk; omega)
  have c2 := Load_ev (n := m + 1) (by omega) k b hb hg hq
  have c3 := Put_ev (n := m + 1) (by omega) k t ht (lq o q p) hl
  rw [show putV (k : Int) t (lq o q p) = _ from if_pos hk, Int.toNat_natCast] at c3
  have hbl := blk_len k t (lq o q p) hl
  unfold mayK at hk
  have g1 : decide ((k : Int) < 0) = false := decide_eq_false (by omega)
  have g2 : decide ((6 : Int) < k) = false := decide_eq_false (by omega)
  have g3 : decide ((54 : Int) < (p.length : Int)) = false := decide_eq_false (by omega)
  have g4 : decide ((o : Int) < 0) = false := decide_eq_false (by omega)
  have g5 : IntKind.i64.wrap (54 - (p.length : Int)) = 54 - (p.length : Int) := by rw [wrap64]; omega
  have g7 : decide (54 - (p.length : Int) < (o : Int)) = false := decide_eq_false (by omega)
  have g6 : ((k : Int) == 0) = false := by simp; omega
  have ln : lenA Try.prog 31 (byt true p) = some (.v (.int .i64 (p.length : Int))) := len_b _ _
  have lp := fun r => ld_pc (u8l b) o k p r
  have lB := lds hB
  have lL := lds hL
  have sL := sts hL
  have aL := al_a hL
  have aB := al_a hB
  have zl : (zero 54).length = 54 := rfl
  have zl6 : (zero 64).length = 64 := rfl
  have s1 : sliceA Try.prog [u8l b, pc o k p, u8l (zero 64), u8l q] 38 (.bp 3 0) (some (.v (.int .i64 o))) none none = some (.bsl 3 o (54 - o) 1) := sl_alo hL (k := 3) (b := q) rfl hq .i64 o (by omega)
  have y1 : readA [u8l b, pc o k p, u8l (zero 64), u8l q] (byt true p) = some (p.length, u8l p) := by
    rfl
  have cp := cp_b t8 (bx := [u8l b, pc o k p, u8l (zero 64), u8l q]) (k := 3) (off := o) (n := 54 - o) (b := q) (d := p) (y := byt true p) rfl (by omega) y1 (by omega)
  rw [show q.take o ++ p ++ q.drop (o + p.length) = lq o q p from rfl] at cp
  simp only [List.set_cons_succ, List.set_cons_zero] at cp
  have s2 := st_a hB (bx := [u8l b, pc o k p, u8l (zero 64), u8l (lq o q p)]) (k := 2) (b := zero 64) (c := blk k t (lq o q p)) rfl zl6 hbl
  simp only [List.set_cons_succ, List.set_cons_zero] at s2
  unfold cf
  rw [E_roll_Lay]
  refine ends_cf (P := Try.prog) ?_
  unfold F_roll_Lay
  have stq := (And.intro (box_agg) (And.intro (aB) (And.intro (aL) (And.intro (lB) (And.intro (lL) (And.intro (sL) (And.intro (hb) (And.intro (hl) (And.intro (hq) (And.intro (zl) (And.intro (zl6) (And.intro (fa_pc) (And.intro (lp) (And.intro (ln) (And.intro (c1) (And.intro (c2) (And.intro (c3) (And.intro (g1) (And.intro (g2) (And.intro (g3) (And.intro (g4) (And.intro (g5) (And.intro (g6) (And.intro (g7) (And.intro (frz_agg) (And.intro (s1) (And.intro (cp) (s2))))))))))))))))))))))))))))
  repeat first
    | ((with_reducible apply ends_bind); case h => first | (simp only [stp, stq]; first | done | rfl) | rfl)
    | ((with_reducible apply ends_t); case h => first | rfl | (simp only [stp, stq]; done))
    | ((with_reducible apply ends_f); case h => first | rfl | (simp only [stp, stq]; done))
  exact ends_some (retq_ct (ld_a hB (b := blk k t (lq o q p)) rfl hbl) (frz_agg _ _ _ _))
end Go.Sy
