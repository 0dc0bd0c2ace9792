/-
  Layer 09: what the functions of maps compute, as the reader reads them.
-/
import Derived.Test.YtapjcmloaeaefaaPPfNum
import Derived.Test.YtapjcmloaeaefaaPPfGeom0
import Derived.Test.YtapjcmloaeaefaaSyArr
namespace Go.Sy.Pre
open Go.Proofs Num Go.Proofs.Ytapjcmloaeaefaa

theorem hL : arr8 Try.prog 23 54 = true := by kernel_rfl
theorem cf_ext {m : Nat} {f : FuncId} {args : List AV} {r : AV} {bx : Bx} (h : ext0 f args [] = some (r, bx)) : cf (evFn cx0 ext0 (m + 1)) f args = some (frz bx false 6 r) := by
  unfold cf evFn
  rw [h]
  rfl
theorem bit_ext (m : Nat) (k i : Int) : cf (evFn cx0 ext0 (m + 1)) 29 [.v (.int .i64 k), .v (.int .i64 i)] = some (.tup [.v (.int .i64 (bitK k i)), .v (.int .i64 (bitE k i))]) := by
  have h : ext0 29 [.v (.int .i64 k), .v (.int .i64 i)] [] = some (.tup [.v (.int .i64 (bitK k i)), .v (.int .i64 (bitE k i))], []) := rfl
  rw [cf_ext h]
  rfl
/-- a map's bytes -/
def mp (p : List UInt8) (k : Int) : List UInt8 := (p.drop (pAt k).toNat).take (pSz k).toNat
theorem of_ext (m : Nat) (p : List UInt8) (hp : p.length = 54) (k : Int) : cf (evFn cx0 ext0 (m + 1)) 28 [.agg (u8l p), .v (.int .i64 k)] = some (byt false (mp p k)) := by
  have h : ext0 28 [.agg (u8l p), .v (.int .i64 k)] [] = some (.bsl 0 (pAt k).toNat (pSz k).toNat 1, [u8l p]) := by
    show extC _ _ _ = _
    unfold extC
    rw [if_neg (by decide), if_pos rfl]
    simp only
    rw [if_pos (by simpa [u8l] using hp)]
    rfl
  rw [cf_ext h]
  have := part_le k
  rw [frz_bo (b := p) false rfl (by omega)]
  rfl
theorem bitK_ok {k i : Int} (h : bitOk k i) : ∃ j : Nat, bitK k i = j ∧ j < 432 := by
  unfold bitK
  rw [if_pos h]
  unfold bitOk at h
  split
  · exact ⟨(128 + i).toNat, by omega, by omega⟩
  · exact ⟨i.toNat, by omega, by omega⟩
def takV (p : List UInt8) (k i : Int) : AV := if bitOk k i then .tup [.v (.bool (bitAt p (bitK k i).toNat)), .v (.int .i64 0)] else .tup [.v (.bool false), .v (.int .i64 2)]
theorem Taken_ev {n : Nat} (hn : 5 ≤ n) (p : List UInt8) (hp : p.length = 54) (k i : Int) : cf (evFn cx0 ext0 n) 9 [.agg (u8l p), .v (.int .i64 k), .v (.int .i64 i)] = some (takV p k i) := by
  obtain ⟨m, rfl⟩ : ∃ k, n = k + 4 := ⟨n - 4, by omega⟩
  have c1 : cf (evFn cx0 ext0 (m + 3)) 29 [.v (.int .i64 k), .v (.int .i64 i)] = _ := bit_ext (m + 2) k i
  have q0 := fun r => sl_a hL (P := Try.prog) (bx := u8l p :: r) (k := 0) (b := p) rfl hp
  have f0 := fun r => frz_b8 true (bx := u8l p :: r) (b := p) (k := 0) (d := 4) rfl hp.symm
  unfold cf
  rw [E_maps_Taken]
  refine ends_cf (P := Try.prog) ?_
  unfold F_maps_Taken takV
  by_cases h : bitOk k i
  · obtain ⟨j, hj, hjl⟩ := bitK_ok h
    rw [hj, show bitE k i = 0 from if_pos h] at c1
    rw [if_pos h, hj, Int.toNat_natCast]
    have c2 : cf (evFn cx0 ext0 (m + 3)) 30 [byt true p, .v (.int .i64 j)] = _ := Bit_ev (m + 1) p true j (by omega) (by omega)
    rw [bitV_ok p j (by omega)] at c2
    have z0 : ((0 : Int) != 0) = false := rfl
    have stq := (And.intro (box_agg) (And.intro (c1) (And.intro (q0) (And.intro (f0) (And.intro (c2) (z0))))))
    repeat first
      | ((with_reducible apply ends_bind); case h => first | (simp only [stp, stq]; first | done | rfl) | rfl)
      | ((with_reducible apply ends_t); case h => first | rfl | (simp only [stp, stq]; done))
      | ((with_reducible apply ends_f); case h => first | rfl | (simp only [stp, stq]; done))
    exact ends_some ⟨.inl rfl, _, rfl, rfl⟩
  · rw [show bitE k i = 2 from if_neg h] at c1
    rw [if_neg h]
    have z0 : ((2 : Int) != 0) = true := rfl
    have stq := (And.intro (box_agg) (And.intro (c1) (z0)))
    repeat first
      | ((with_reducible apply ends_bind); case h => first | (simp only [stp, stq]; first | done | rfl) | rfl)
      | ((with_reducible apply ends_t); case h => first | rfl | (simp only [stp, stq]; done))
      | ((with_reducible apply ends_f); case h => first | rfl | (simp only [stp, stq]; done))
    exact ends_some ⟨.inl rfl, _, rfl, rfl⟩
theorem rbit_ev (m : Nat) (k i : Int) : cf (evFn cx0 ext0 (m + 1)) 34 [.v (.int .i64 k), .v (.int .i64 i)] = some (.tup [.v (.int .i64 (bitK k i)), .v (.bool (decide (bitOk k i)))]) := by
  unfold cf
  rw [E_r09_bit]
  refine ends_cf (P := Try.prog) ?_
  unfold F_r09_bit bitK
  by_cases hk : k = 0
  · subst hk
    have z0 : ((0 : Int) == 0) = true := rfl
    have z4 : ((0 : Int) == 4) = false := rfl
    by_cases h1 : 0 ≤ i
    · have g1 : decide (i ≥ 0) = true := decide_eq_true h1
      by_cases h2 : i < 128
      · have g2 : decide (i < 128) = true := decide_eq_true h2
        have hb : bitOk 0 i := by unfold bitOk; omega
        rw [if_pos hb, if_neg (by omega), decide_eq_true hb]
        have stq := (And.intro (z0) (And.intro (g1) (g2)))
        repeat first
          | ((with_reducible apply ends_bind); case h => first | (simp only [stp, stq]; first | done | rfl) | rfl)
          | ((with_reducible apply ends_t); case h => first | rfl | (simp only [stp, stq]; done))
          | ((with_reducible apply ends_f); case h => first | rfl | (simp only [stp, stq]; done))
        exact ends_some ⟨.inl rfl, _, rfl, rfl⟩
      · have g2 : decide (i < 128) = false := decide_eq_false h2
        have hb : ¬ bitOk 0 i := by unfold bitOk; omega
        rw [if_neg hb, decide_eq_false hb]
        have stq := (And.intro (z0) (And.intro (z4) (And.intro (g1) (g2))))
        repeat first
          | ((with_reducible apply ends_bind); case h => first | (simp only [stp, stq]; first | done | rfl) | rfl)
          | ((with_reducible apply ends_t); case h => first | rfl | (simp only [stp, stq]; done))
          | ((with_reducible apply ends_f); case h => first | rfl | (simp only [stp, stq]; done))
        exact ends_some ⟨.inl rfl, _, rfl, rfl⟩
    · have g1 : decide (i ≥ 0) = false := decide_eq_false h1
      have hb : ¬ bitOk 0 i := by unfold bitOk; omega
      rw [if_neg hb, decide_eq_false hb]
      have stq := (And.intro (z0) (And.intro (z4) (g1)))
      repeat first
        | ((with_reducible apply ends_bind); case h => first | (simp only [stp, stq]; first | done | rfl) | rfl)
        | ((with_reducible apply ends_t); case h => first | rfl | (simp only [stp, stq]; done))
        | ((with_reducible apply ends_f); case h => first | rfl | (simp only [stp, stq]; done))
      exact ends_some ⟨.inl rfl, _, rfl, rfl⟩
  · have z0 : (k == 0) = false := by simpa using hk
    by_cases hk4 : k = 4
    · subst hk4
      have z4 : ((4 : Int) == 4) = true := rfl
      have z0 : ((4 : Int) == 0) = false := rfl
      by_cases h1 : 0 ≤ i
      · have g1 : decide (i ≥ 0) = true := decide_eq_true h1
        by_cases h2 : i < 24
        · have g2 : decide (i < 24) = true := decide_eq_true h2
          have hb : bitOk 4 i := by unfold bitOk; omega
          have w : IntKind.i64.wrap (128 + i) = 128 + i := by rw [wrap64]; omega
          rw [if_pos hb, if_pos rfl, decide_eq_true hb]
          have stq := (And.intro (z0) (And.intro (z4) (And.intro (g1) (And.intro (g2) (w)))))
          repeat first
            | ((with_reducible apply ends_bind); case h => first | (simp only [stp, stq]; first | done | rfl) | rfl)
            | ((with_reducible apply ends_t); case h => first | rfl | (simp only [stp, stq]; done))
            | ((with_reducible apply ends_f); case h => first | rfl | (simp only [stp, stq]; done))
          exact ends_some ⟨.inl rfl, _, rfl, rfl⟩
        · have g2 : decide (i < 24) = false := decide_eq_false h2
          have hb : ¬ bitOk 4 i := by unfold bitOk; omega
          rw [if_neg hb, decide_eq_false hb]
          have stq := (And.intro (z0) (And.intro (z4) (And.intro (g1) (g2))))
          repeat first
            | ((with_reducible apply ends_bind); case h => first | (simp only [stp, stq]; first | done | rfl) | rfl)
            | ((with_reducible apply ends_t); case h => first | rfl | (simp only [stp, stq]; done))
            | ((with_reducible apply ends_f); case h => first | rfl | (simp only [stp, stq]; done))
          exact ends_some ⟨.inl rfl, _, rfl, rfl⟩
      · have g1 : decide (i ≥ 0) = false := decide_eq_false h1
        have hb : ¬ bitOk 4 i := by unfold bitOk; omega
        rw [if_neg hb, decide_eq_false hb]
        have stq := (And.intro (z0) (And.intro (z4) (g1)))
        repeat first
          | ((with_reducible apply ends_bind); case h => first | (simp only [stp, stq]; first | done | rfl) | rfl)
          | ((with_reducible apply ends_t); case h => first | rfl | (simp only [stp, stq]; done))
          | ((with_reducible apply ends_f); case h => first | rfl | (simp only [stp, stq]; done))
        exact ends_some ⟨.inl rfl, _, rfl, rfl⟩
    · have z4 : (k == 4) = false := by simpa using hk4
      have hb : ¬ bitOk k i := by unfold bitOk; omega
      rw [if_neg hb, decide_eq_false hb]
      have stq := (And.intro (z0) (z4))
      repeat first
        | ((with_reducible apply ends_bind); case h => first | (simp only [stp, stq]; first | done | rfl) | rfl)
        | ((with_reducible apply ends_t); case h => first | rfl | (simp only [stp, stq]; done))
        | ((with_reducible apply ends_f); case h => first | rfl | (simp only [stp, stq]; done))
      exact ends_some ⟨.inl rfl, _, rfl, rfl⟩
theorem rTaken_ev {n : Nat} (hn : 30 ≤ n) (p : List UInt8) (hp : p.length = 54) (k i : Int) : cf (evFn cx0 ext0 n) 19 [.agg (u8l p), .v (.int .i64 k), .v (.int .i64 i)] = some (takV p k i) := by
  obtain ⟨m, rfl⟩ : ∃ k, n = k + 4 := ⟨n - 4, by omega⟩
  have c1 : cf (evFn cx0 ext0 (m + 3)) 34 [.v (.int .i64 k), .v (.int .i64 i)] = _ := rbit_ev (m + 2) k i
  have q0 := fun r => sl_a hL (P := Try.prog) (bx := u8l p :: r) (k := 0) (b := p) rfl hp
  have f0 := fun r => frz_b8 true (bx := u8l p :: r) (b := p) (k := 0) (d := 4) rfl hp.symm
  unfold cf
  rw [E_r09_Taken]
  refine ends_cf (P := Try.prog) ?_
  unfold F_r09_Taken takV
  by_cases h : bitOk k i
  · obtain ⟨j, hj, hjl⟩ := bitK_ok h
    rw [hj, decide_eq_true h] at c1
    rw [if_pos h, hj, Int.toNat_natCast]
    have c2 : cf (evFn cx0 ext0 (m + 3)) 35 [byt true p, .v (.int .i64 j)] = _ := rBit_ev (m + 3) (by omega) p true j (by omega) (by omega)
    rw [bitV_ok p j (by omega)] at c2
    have stq := (And.intro (box_agg) (And.intro (c1) (And.intro (q0) (And.intro (f0) (c2)))))
    repeat first
      | ((with_reducible apply ends_bind); case h => first | (simp only [stp, stq]; first | done | rfl) | rfl)
      | ((with_reducible apply ends_t); case h => first | rfl | (simp only [stp, stq]; done))
      | ((with_reducible apply ends_f); case h => first | rfl | (simp only [stp, stq]; done))
    exact ends_some ⟨.inl rfl, _, rfl, rfl⟩
  · rw [decide_eq_false h] at c1
    rw [if_neg h]
    have stq := (And.intro (box_agg) (c1))
    repeat first
      | ((with_reducible apply ends_bind); case h => first | (simp only [stp, stq]; first | done | rfl) | rfl)
      | ((with_reducible apply ends_t); case h => first | rfl | (simp only [stp, stq]; done))
      | ((with_reducible apply ends_f); case h => first | rfl | (simp only [stp, stq]; done))
    exact ends_some ⟨.inl rfl, _, rfl, rfl⟩
/-! ## bits that are set -/
def setV (p : List UInt8) (k i : Int) (on : Bool) : AV := if bitOk k i then .tup [.agg (u8l (withB p (bitK k i).toNat on)), .v (.int .i64 0)] else .tup [.agg (u8l (List.replicate 54 0)), .v (.int .i64 2)]
theorem ip_ld (bx : Bx) (b : List UInt8) (hb : b.length = 54) (f : Bool) : loadA Try.prog 23 bx (.ip (u8l b) f) = some (.agg (u8l b)) := by
  rw [ld_ip hL (by omega), List.take_of_length_le (by omega)]
theorem retq_ct {P : Program} {a t u : Nat} {env : Env} {bx : Bx} {x x' : AV} (hl : loadA P t bx (get env a) = some x) (hx : frz bx false 5 x = x') : RetQ P [.cell a t, .tmp u] (.tup [x', frz bx false 5 (get env u)]) .ret ⟨env, bx⟩ := by
  refine ⟨.inl rfl, [x, get env u], ?_, ?_⟩
  · simp only [resL, hl, Option.map_some, Option.bind_some]
  · rw [← hx]; rfl
theorem With_ev' {n : Nat} (hn : 20 ≤ n) (p : List UInt8) (hp : p.length = 54) (k i : Int) (on : Bool) : cf (evFn cx0 ext0 n) 13 [.agg (u8l p), .v (.int .i64 k), .v (.int .i64 i), .v (.bool on)] = some (setV p k i on) := by
  obtain ⟨m, rfl⟩ : ∃ k, n = k + 4 := ⟨n - 4, by omega⟩
  have c1 : cf (evFn cx0 ext0 (m + 3)) 29 [.v (.int .i64 k), .v (.int .i64 i)] = _ := bit_ext (m + 2) k i
  have q0 := fun r => sl_a hL (P := Try.prog) (bx := u8l p :: r) (k := 0) (b := p) rfl hp
  have f0 := fun r => frz_b8 true (bx := u8l p :: r) (b := p) (k := 0) (d := 4) rfl hp.symm
  have aL := al_a hL (P := Try.prog)
  have zl : (List.replicate 54 (0 : UInt8)).length = 54 := rfl
  unfold cf
  rw [E_maps_With]
  refine ends_cf (P := Try.prog) ?_
  unfold F_maps_With setV
  by_cases h : bitOk k i
  · obtain ⟨j, hj, hjl⟩ := bitK_ok h
    rw [hj, show bitE k i = 0 from if_pos h] at c1
    rw [if_pos h, hj, Int.toNat_natCast]
    have c2 : cf (evFn cx0 ext0 (m + 3)) 32 [byt true p, .v (.int .i64 j), .v (.bool on)] = _ := With_ev (n := m + 3) (by omega) p true j on (by omega) (by omega)
    rw [show withV p j on = _ from if_neg (by omega), Int.toNat_natCast] at c2
    have hw : (withB p j on).length = 54 := by rw [withB_len, hp]
    have ap := ap_s hL (P := Try.prog) (u8l (withB p j on)) false (withB p j on).length (by omega)
    have ld := fun bx => ip_ld bx (withB p j on) hw false
    have s1 := st_a hL (P := Try.prog) (bx := [u8l p, u8l (List.replicate 54 0)]) (k := 1) (b := List.replicate 54 0) (c := withB p j on) rfl zl hw
    simp only [List.set_cons_succ, List.set_cons_zero] at s1
    have z0 : ((0 : Int) != 0) = false := rfl
    have stq := (And.intro (box_agg) (And.intro (aL) (And.intro (c1) (And.intro (q0) (And.intro (f0) (And.intro (c2) (And.intro (ap) (And.intro (ld) (And.intro (s1) (z0))))))))))
    repeat first
      | ((with_reducible apply ends_bind); case h => first | (simp only [stp, stq]; first | done | rfl) | rfl)
      | ((with_reducible apply ends_t); case h => first | rfl | (simp only [stp, stq]; done))
      | ((with_reducible apply ends_f); case h => first | rfl | (simp only [stp, stq]; done))
    exact ends_some (retq_ct (ld_a hL (b := withB p j on) rfl hw) (frz_agg _ _ _ _))
  · rw [show bitE k i = 2 from if_neg h] at c1
    rw [if_neg h]
    have zL := z_a hL (P := Try.prog)
    have s1 := st_a hL (P := Try.prog) (bx := [u8l p, u8l (List.replicate 54 0)]) (k := 1) (b := List.replicate 54 0) (c := List.replicate 54 0) rfl zl zl
    simp only [List.set_cons_succ, List.set_cons_zero] at s1
    have z0 : ((2 : Int) != 0) = true := rfl
    have stq := (And.intro (box_agg) (And.intro (aL) (And.intro (c1) (And.intro (zL) (And.intro (s1) (z0))))))
    repeat first
      | ((with_reducible apply ends_bind); case h => first | (simp only [stp, stq]; first | done | rfl) | rfl)
      | ((with_reducible apply ends_t); case h => first | rfl | (simp only [stp, stq]; done))
      | ((with_reducible apply ends_f); case h => first | rfl | (simp only [stp, stq]; done))
    exact ends_some (retq_ct (ld_a hL (b := List.replicate 54 0) rfl zl) (frz_agg _ _ _ _))
theorem rWith_ev' {n : Nat} (hn : 40 ≤ n) (p : List UInt8) (hp : p.length = 54) (k i : Int) (on : Bool) : cf (evFn cx0 ext0 n) 20 [.agg (u8l p), .v (.int .i64 k), .v (.int .i64 i), .v (.bool on)] = some (setV p k i on) := by
  obtain ⟨m, rfl⟩ : ∃ k, n = k + 4 := ⟨n - 4, by omega⟩
  have c1 : cf (evFn cx0 ext0 (m + 3)) 34 [.v (.int .i64 k), .v (.int .i64 i)] = _ := rbit_ev (m + 2) k i
  have q0 := fun r => sl_a hL (P := Try.prog) (bx := u8l p :: r) (k := 0) (b := p) rfl hp
  have f0 := fun r => frz_b8 true (bx := u8l p :: r) (b := p) (k := 0) (d := 4) rfl hp.symm
  have aL := al_a hL (P := Try.prog)
  have zl : (List.replicate 54 (0 : UInt8)).length = 54 := rfl
  unfold cf
  rw [E_r09_With]
  refine ends_cf (P := Try.prog) ?_
  unfold F_r09_With setV
  by_cases h : bitOk k i
  · obtain ⟨j, hj, hjl⟩ := bitK_ok h
    rw [hj, decide_eq_true h] at c1
    rw [if_pos h, hj, Int.toNat_natCast]
    have c2 : cf (evFn cx0 ext0 (m + 3)) 36 [byt true p, .v (.int .i64 j), .v (.bool on)] = _ := rWith_ev (n := m + 3) (by omega) p true j on (by omega) (by omega)
    rw [show withV p j on = _ from if_neg (by omega), Int.toNat_natCast] at c2
    have hw : (withB p j on).length = 54 := by rw [withB_len, hp]
    have ap := ap_s hL (P := Try.prog) (u8l (withB p j on)) false (withB p j on).length (by omega)
    have ld := fun bx => ip_ld bx (withB p j on) hw false
    have s1 := st_a hL (P := Try.prog) (bx := [u8l p, u8l (List.replicate 54 0)]) (k := 1) (b := List.replicate 54 0) (c := withB p j on) rfl zl hw
    simp only [List.set_cons_succ, List.set_cons_zero] at s1
    have stq := (And.intro (box_agg) (And.intro (aL) (And.intro (c1) (And.intro (q0) (And.intro (f0) (And.intro (c2) (And.intro (ap) (And.intro (ld) (s1)))))))))
    repeat first
      | ((with_reducible apply ends_bind); case h => first | (simp only [stp, stq]; first | done | rfl) | rfl)
      | ((with_reducible apply ends_t); case h => first | rfl | (simp only [stp, stq]; done))
      | ((with_reducible apply ends_f); case h => first | rfl | (simp only [stp, stq]; done))
    exact ends_some (retq_ct (ld_a hL (b := withB p j on) rfl hw) (frz_agg _ _ _ _))
  · rw [decide_eq_false h] at c1
    rw [if_neg h]
    have zL := z_a hL (P := Try.prog)
    have s1 := st_a hL (P := Try.prog) (bx := [u8l p, u8l (List.replicate 54 0)]) (k := 1) (b := List.replicate 54 0) (c := List.replicate 54 0) rfl zl zl
    simp only [List.set_cons_succ, List.set_cons_zero] at s1
    have stq := (And.intro (box_agg) (And.intro (aL) (And.intro (c1) (And.intro (zL) (s1)))))
    repeat first
      | ((with_reducible apply ends_bind); case h => first | (simp only [stp, stq]; first | done | rfl) | rfl)
      | ((with_reducible apply ends_t); case h => first | rfl | (simp only [stp, stq]; done))
      | ((with_reducible apply ends_f); case h => first | rfl | (simp only [stp, stq]; done))
    exact ends_some (retq_ct (ld_a hL (b := List.replicate 54 0) rfl zl) (frz_agg _ _ _ _))
def byteV (k i : Int) : AV := if bitOk k i then .tup [.v (.int .i64 ((bitK k i).toNat / 8 : Nat)), .v (.int .i64 0)] else .tup [.v (.int .i64 0), .v (.int .i64 2)]
theorem Byte_ev (m : Nat) (k i : Int) : cf (evFn cx0 ext0 (m + 2)) 14 [.v (.int .i64 k), .v (.int .i64 i)] = some (byteV k i) := by
  have c1 : cf (evFn cx0 ext0 (m + 1)) 29 [.v (.int .i64 k), .v (.int .i64 i)] = _ := bit_ext m k i
  unfold cf
  rw [E_maps_Byte]
  refine ends_cf (P := Try.prog) ?_
  unfold F_maps_Byte byteV
  by_cases h : bitOk k i
  · obtain ⟨j, hj, hjl⟩ := bitK_ok h
    rw [hj, show bitE k i = 0 from if_pos h] at c1
    rw [if_pos h, hj, Int.toNat_natCast]
    have w := (nat8 j (by omega)).1
    have stq := (And.intro (c1) (w))
    repeat first
      | ((with_reducible apply ends_bind); case h => first | (simp only [stp, stq]; first | done | rfl) | rfl)
      | ((with_reducible apply ends_t); case h => first | rfl | (simp only [stp, stq]; done))
      | ((with_reducible apply ends_f); case h => first | rfl | (simp only [stp, stq]; done))
    exact ends_some ⟨.inl rfl, _, rfl, rfl⟩
  · rw [show bitE k i = 2 from if_neg h, show bitK k i = 0 from if_neg h] at c1
    rw [if_neg h]
    have stq := (c1)
    repeat first
      | ((with_reducible apply ends_bind); case h => first | (simp only [stp, stq]; first | done | rfl) | rfl)
      | ((with_reducible apply ends_t); case h => first | rfl | (simp only [stp, stq]; done))
      | ((with_reducible apply ends_f); case h => first | rfl | (simp only [stp, stq]; done))
    exact ends_some ⟨.inl rfl, _, rfl, rfl⟩
theorem rByte_ev (m : Nat) (k i : Int) : cf (evFn cx0 ext0 (m + 2)) 21 [.v (.int .i64 k), .v (.int .i64 i)] = some (byteV k i) := by
  have c1 : cf (evFn cx0 ext0 (m + 1)) 34 [.v (.int .i64 k), .v (.int .i64 i)] = _ := rbit_ev m k i
  unfold cf
  rw [E_r09_Byte]
  refine ends_cf (P := Try.prog) ?_
  unfold F_r09_Byte byteV
  by_cases h : bitOk k i
  · obtain ⟨j, hj, hjl⟩ := bitK_ok h
    rw [hj, decide_eq_true h] at c1
    rw [if_pos h, hj, Int.toNat_natCast]
    have w := (nat8 j (by omega)).1
    have stq := (And.intro (c1) (w))
    repeat first
      | ((with_reducible apply ends_bind); case h => first | (simp only [stp, stq]; first | done | rfl) | rfl)
      | ((with_reducible apply ends_t); case h => first | rfl | (simp only [stp, stq]; done))
      | ((with_reducible apply ends_f); case h => first | rfl | (simp only [stp, stq]; done))
    exact ends_some ⟨.inl rfl, _, rfl, rfl⟩
  · rw [decide_eq_false h] at c1
    rw [if_neg h]
    have stq := (c1)
    repeat first
      | ((with_reducible apply ends_bind); case h => first | (simp only [stp, stq]; first | done | rfl) | rfl)
      | ((with_reducible apply ends_t); case h => first | rfl | (simp only [stp, stq]; done))
      | ((with_reducible apply ends_f); case h => first | rfl | (simp only [stp, stq]; done))
    exact ends_some ⟨.inl rfl, _, rfl, rfl⟩
end Go.Sy.Pre
