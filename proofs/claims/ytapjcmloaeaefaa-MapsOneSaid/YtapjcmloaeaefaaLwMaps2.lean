/-
  Layer 09's law MapsOne as the reader reads it.
-/
import Derived.Test.YtapjcmloaeaefaaLwMaps
namespace Go.Sy
open Go.Proofs Num Go.Proofs.Ytapjcmloaeaefaa

theorem sb_sb (x : UInt8) (m : Nat) (hm : m < 8) : sb (sb x m true) m (tb x m) = x :=
  fin8 (p := fun x m => sb (sb x m true) m (tb x m) = x) (by decide +kernel) x m hm
theorem sb_ne (x : UInt8) (m : Nat) (hm : m < 8) (h : tb x m = false) : (((sb x m true).toNat : Int) == (x.toNat : Int)) = false :=
  fin8 (p := fun x m => tb x m = false → (((sb x m true).toNat : Int) == (x.toNat : Int)) = false) (by decide +kernel) x m hm h
theorem with_back (p : List UInt8) (K : Nat) (h : K < 8 * p.length) : withB (withB p K true) K (bitAt p K) = p := by
  have h8 : K / 8 < p.length := by omega
  have hl := withB_len p K true
  rw [withB_eq _ _ _ (by omega), bitAt_eq p K h8]
  have e : (withB p K true)[K / 8]'(by omega) = Num.sb p[K / 8] (K % 8) true := by
    simp only [withB_eq p K true h8, List.getElem_set_self]
  rw [e, sb_sb _ _ (by omega), withB_eq p K true h8, List.set_set, List.set_getElem_self]
theorem with_on (p : List UInt8) (K : Nat) (h : K < 8 * p.length) (hb : bitAt p K = true) : withB p K true = p := by
  have h8 : K / 8 < p.length := by omega
  have := bitAt_eq p K h8
  rw [withB_eq p K true h8, ← hb, this, sb_same _ _ (by omega), List.set_getElem_self]

/-- the law's end, whatever the kind -/
structure OneV (p q : List UInt8) (K J : Nat) (was x y : Bool) : Prop where
  len : q.length = 54
  y : y = (x || K == J)
  on : was = true → q = p
  off : was = false → (q == p) = false
theorem one_v (p : List UInt8) (hp : p.length = 54) (K J : Nat) (hK : K < 432) : OneV p (withB p K true) K J (bitAt p K) (bitAt p J) (bitAt (withB p K true) J) := by
  refine ⟨by rw [withB_len, hp], ?_, fun h => with_on p K (by omega) h, fun h => ?_⟩
  · rw [bit_with p K J true (by omega)]
    by_cases hkj : K = J
    · subst hkj; simp
    · have : (K == J) = false := by simpa using hkj
      rw [if_neg hkj, this, Bool.or_false]
  · have hne : withB p K true ≠ p := by
      intro hc
      have := bit_with p K K true (by omega)
      rw [if_pos rfl, hc, h] at this
      simp at this
    simpa using hne

set_option maxRecDepth 100000 in
theorem one_ev (p : List UInt8) (hp : p.length = 54) (ino : Bool) (i j : Int) : cf (evFn cx0 ext0 1000) 4 [.agg (u8l p), .v (.bool ino), .v (.int .i64 i), .v (.int .i64 j)] = some (.v (.bool true)) := by
  have hw := works_at 999 (by omega)
  have aL := al_a hL (P := Try.prog)
  have lL := lds hL (P := Try.prog)
  have sL := sts hL (P := Try.prog)
  have zl : z54.length = 54 := rfl
  unfold cf
  rw [E_l09_MapsOne]
  refine ends_cf (P := Try.prog) ?_
  unfold F_l09_MapsOne
  obtain ⟨kd, n, hkn, hlt⟩ : ∃ (kd : Int) (n : Nat), (kd = if ino then 4 else 0) ∧ n = if ino then 24 else 128 := ⟨_, _, rfl, rfl⟩
  obtain ⟨u, hu, a1⟩ := among_ev 998 i n (by subst hlt; split <;> omega) (by subst hlt; split <;> omega)
  obtain ⟨v, hv, a2⟩ := among_ev 998 j n (by subst hlt; split <;> omega) (by subst hlt; split <;> omega)
  have ou : bitOk kd u := by subst hkn hlt; unfold bitOk; cases ino <;> simp at hu ⊢ <;> omega
  have ov : bitOk kd v := by subst hkn hlt; unfold bitOk; cases ino <;> simp at hv ⊢ <;> omega
  obtain ⟨K, hK, hKl⟩ := bitK_ok ou
  obtain ⟨J, hJ, hJl⟩ := bitK_ok ov
  have hKJ : (K == J) = ((u : Int) == (v : Int)) := by
    have h1 : bitK kd u = if kd = 4 then 128 + (u : Int) else u := if_pos ou
    have h2 : bitK kd v = if kd = 4 then 128 + (v : Int) else v := if_pos ov
    rw [hK] at h1
    rw [hJ] at h2
    rw [Bool.eq_iff_iff]
    simp only [beq_iff_eq]
    split at h1 <;> (rename_i hkd; first | rw [if_pos hkd] at h2 | rw [if_neg hkd] at h2) <;> omega
  have O := one_v p hp K J hKl
  have wb := with_back p K (by omega)
  have d1 := Taken_ev (n := 999) (by omega) p hp kd u
  rw [show takV p kd u = _ from if_pos ou, hK, Int.toNat_natCast] at d1
  have d2 := With_ev' (n := 999) (by omega) p hp kd u true
  rw [show setV p kd u true = _ from if_pos ou, hK, Int.toNat_natCast] at d2
  have d3 := Taken_ev (n := 999) (by omega) p hp kd v
  rw [show takV p kd v = _ from if_pos ov, hJ, Int.toNat_natCast] at d3
  have d4 := Taken_ev (n := 999) (by omega) (withB p K true) O.len kd v
  rw [show takV (withB p K true) kd v = _ from if_pos ov, hJ, Int.toNat_natCast] at d4
  have d5 := With_ev' (n := 999) (by omega) (withB p K true) O.len kd u (bitAt p K)
  rw [show setV (withB p K true) kd u (bitAt p K) = _ from if_pos ou, hK, Int.toNat_natCast, wb] at d5
  have d6 : cf (evFn cx0 ext0 999) 14 [.v (.int .i64 kd), .v (.int .i64 u)] = _ := Byte_ev 997 kd u
  rw [show byteV kd u = _ from if_pos ou, hK, Int.toNat_natCast] at d6
  have h8 : K / 8 < p.length := by omega
  have hby : ((withB p K true)[K / 8]'(by rw [O.len]; omega)) = Num.sb p[K / 8] (K % 8) true := by
    simp only [withB_eq p K true h8, List.getElem_set_self]
  have hbe := bitAt_eq p K h8
  obtain ⟨q, hq⟩ : ∃ q, q = withB p K true := ⟨_, rfl⟩
  obtain ⟨was, hwas⟩ : ∃ was, was = bitAt p K := ⟨_, rfl⟩
  rw [← hq, ← hwas] at O
  rw [← hwas] at d1 d5 wb
  rw [← hq] at d2 d4 d5
  have hql := O.len
  obtain ⟨x, hx⟩ : ∃ x, x = bitAt p J := ⟨_, rfl⟩
  obtain ⟨y, hy⟩ : ∃ y, y = bitAt q J := ⟨_, rfl⟩
  rw [← hx] at d3 O
  rw [← hy] at d4 O
  have hyx := O.y
  rw [hKJ] at hyx
  have e0 := (eq_a hL (P := Try.prog) (a := p) (b := p) hp hp).1
  have e1 := (eq_a hL (P := Try.prog) (a := q) (b := p) hql hp).1
  have xa : ∀ b : Nat, indexAddrA Try.prog 23 (.bp b 0) (.v (.int .i64 (K / 8 : Nat))) = some (.bp b (K / 8)) := by
    intro b
    have := ix_a hL (P := Try.prog) b 0 .i64 (K / 8) (by omega)
    rw [Nat.zero_add] at this
    exact this
  have lb1 := ld_b8 (P := Try.prog) (t := 5) (by kernel_rfl) (by kernel_rfl) [u8l p, u8l q, u8l p] 1 (K / 8) q rfl (by omega)
  have lb0 := ld_b8 (P := Try.prog) (t := 5) (by kernel_rfl) (by kernel_rfl) [u8l p, u8l q, u8l p] 0 (K / 8) p rfl h8
  have z0 : ((0 : Int) == 0) = true := rfl
  have xb : (y == (x || (u : Int) == (v : Int))) = true := by rw [hyx]; simp
  have nq : was = false → binA Try.prog .neq 5 (Go.Sy.u8 (q[K / 8]'(by omega))) (Go.Sy.u8 p[K / 8]) = some (.v (.bool true)) := by
    intro hf
    have hqe : q[K / 8]'(by omega) = Num.sb p[K / 8] (K % 8) true := by
      subst hq
      exact hby
    have hne := sb_ne p[K / 8] (K % 8) (by omega) (by rw [← hbe, ← hwas, hf])
    rw [hqe]
    have hb : ∀ a b : UInt8, binA Try.prog .neq 5 (Go.Sy.u8 a) (Go.Sy.u8 b) = some (.v (.bool (!((a.toNat : Int) == (b.toNat : Int))))) := fun a b => by kernel_rfl
    rw [hb, hne]
    rfl
  have hxw : ((u : Int) == (v : Int)) = true → x = was := by
    intro h
    rw [← hKJ] at h
    have : K = J := by simpa using h
    rw [hx, hwas, this]
  clear hby hbe hx hy hwas wb
  cases ino
  · simp only [Bool.false_eq_true, if_false] at hkn hlt
    subst hkn hlt
    have a1 : cf (evFn cx0 ext0 999) 12 [.v (.int .i64 i), .v (.int .i64 128)] = some (.v (.int .i64 u)) := a1
    have a2 : cf (evFn cx0 ext0 999) 12 [.v (.int .i64 j), .v (.int .i64 128)] = some (.v (.int .i64 v)) := a2
    cases was
    · have e2 := O.off rfl
      have nq := nq rfl
      rw [e2] at e1
      cases x
      · have uv : ((u : Int) == (v : Int)) = y := by rw [hyx]; rfl
        cases y
        · skip
          have stq := (And.intro (box_agg) (And.intro (aL) (And.intro (lL) (And.intro (sL) (And.intro (zl) (And.intro (hp) (And.intro (hql) (And.intro (frz_agg) (And.intro (hw) (And.intro (n_t) (And.intro (a1) (And.intro (a2) (And.intro (d1) (And.intro (d2) (And.intro (d3) (And.intro (d4) (And.intro (d5) (And.intro (d6) (And.intro (z0) (And.intro (e0) (And.intro (e1) (And.intro (lbq) (And.intro (uv) (And.intro (bb) (And.intro (beq_b) (And.intro (xa) (And.intro (lb0) (And.intro (lb1) (nq)))))))))))))))))))))))))))))
          repeat first
            | ((with_reducible apply ends_bind); case h => first | (simp only [stp, stq]; first | done | rfl) | rfl)
            | ((with_reducible apply ends_t); case h => first | rfl | (simp only [stp, stq]; done))
            | ((with_reducible apply ends_f); case h => first | rfl | (simp only [stp, stq]; done))
          exact ends_some ⟨.inl rfl, _, rfl, rfl⟩
        · skip
          have stq := (And.intro (box_agg) (And.intro (aL) (And.intro (lL) (And.intro (sL) (And.intro (zl) (And.intro (hp) (And.intro (hql) (And.intro (frz_agg) (And.intro (hw) (And.intro (n_t) (And.intro (a1) (And.intro (a2) (And.intro (d1) (And.intro (d2) (And.intro (d3) (And.intro (d4) (And.intro (d5) (And.intro (d6) (And.intro (z0) (And.intro (e0) (And.intro (e1) (And.intro (lbq) (And.intro (uv) (And.intro (bb) (And.intro (beq_b) (And.intro (xa) (And.intro (lb0) (And.intro (lb1) (nq)))))))))))))))))))))))))))))
          repeat first
            | ((with_reducible apply ends_bind); case h => first | (simp only [stp, stq]; first | done | rfl) | rfl)
            | ((with_reducible apply ends_t); case h => first | rfl | (simp only [stp, stq]; done))
            | ((with_reducible apply ends_f); case h => first | rfl | (simp only [stp, stq]; done))
          exact ends_some ⟨.inl rfl, _, rfl, rfl⟩
      · obtain rfl : y = true := by rw [hyx]; rfl
        have stq := (And.intro (box_agg) (And.intro (aL) (And.intro (lL) (And.intro (sL) (And.intro (zl) (And.intro (hp) (And.intro (hql) (And.intro (frz_agg) (And.intro (hw) (And.intro (n_t) (And.intro (a1) (And.intro (a2) (And.intro (d1) (And.intro (d2) (And.intro (d3) (And.intro (d4) (And.intro (d5) (And.intro (d6) (And.intro (z0) (And.intro (e0) (And.intro (e1) (And.intro (lbq) (And.intro (xb) (And.intro (bb) (And.intro (beq_b) (And.intro (xa) (And.intro (lb0) (And.intro (lb1) (nq)))))))))))))))))))))))))))))
        repeat first
          | ((with_reducible apply ends_bind); case h => first | (simp only [stp, stq]; first | done | rfl) | rfl)
          | ((with_reducible apply ends_t); case h => first | rfl | (simp only [stp, stq]; done))
          | ((with_reducible apply ends_f); case h => first | rfl | (simp only [stp, stq]; done))
        exact ends_some ⟨.inl rfl, _, rfl, rfl⟩
    · have e2 := O.on rfl
      subst e2
      cases x
      · have uv : ((u : Int) == (v : Int)) = y := by rw [hyx]; rfl
        cases y
        · skip
          have stq := (And.intro (box_agg) (And.intro (aL) (And.intro (lL) (And.intro (sL) (And.intro (zl) (And.intro (hp) (And.intro (frz_agg) (And.intro (hw) (And.intro (n_t) (And.intro (a1) (And.intro (a2) (And.intro (d1) (And.intro (d2) (And.intro (d3) (And.intro (d4) (And.intro (d5) (And.intro (d6) (And.intro (z0) (And.intro (e0) (And.intro (lbq) (And.intro (uv) (And.intro (bb) (beq_b)))))))))))))))))))))))
          repeat first
            | ((with_reducible apply ends_bind); case h => first | (simp only [stp, stq]; first | done | rfl) | rfl)
            | ((with_reducible apply ends_t); case h => first | rfl | (simp only [stp, stq]; done))
            | ((with_reducible apply ends_f); case h => first | rfl | (simp only [stp, stq]; done))
          exact ends_some ⟨.inl rfl, _, rfl, rfl⟩
        · exact absurd (hxw uv) (by simp)
      · obtain rfl : y = true := by rw [hyx]; rfl
        have stq := (And.intro (box_agg) (And.intro (aL) (And.intro (lL) (And.intro (sL) (And.intro (zl) (And.intro (hp) (And.intro (frz_agg) (And.intro (hw) (And.intro (n_t) (And.intro (a1) (And.intro (a2) (And.intro (d1) (And.intro (d2) (And.intro (d3) (And.intro (d4) (And.intro (d5) (And.intro (d6) (And.intro (z0) (And.intro (e0) (And.intro (lbq) (And.intro (xb) (And.intro (bb) (beq_b)))))))))))))))))))))))
        repeat first
          | ((with_reducible apply ends_bind); case h => first | (simp only [stp, stq]; first | done | rfl) | rfl)
          | ((with_reducible apply ends_t); case h => first | rfl | (simp only [stp, stq]; done))
          | ((with_reducible apply ends_f); case h => first | rfl | (simp only [stp, stq]; done))
        exact ends_some ⟨.inl rfl, _, rfl, rfl⟩
  · simp only [if_true] at hkn hlt
    subst hkn hlt
    have a1 : cf (evFn cx0 ext0 999) 12 [.v (.int .i64 i), .v (.int .i64 24)] = some (.v (.int .i64 u)) := a1
    have a2 : cf (evFn cx0 ext0 999) 12 [.v (.int .i64 j), .v (.int .i64 24)] = some (.v (.int .i64 v)) := a2
    cases was
    · have e2 := O.off rfl
      have nq := nq rfl
      rw [e2] at e1
      cases x
      · have uv : ((u : Int) == (v : Int)) = y := by rw [hyx]; rfl
        cases y
        · skip
          have stq := (And.intro (box_agg) (And.intro (aL) (And.intro (lL) (And.intro (sL) (And.intro (zl) (And.intro (hp) (And.intro (hql) (And.intro (frz_agg) (And.intro (hw) (And.intro (n_t) (And.intro (a1) (And.intro (a2) (And.intro (d1) (And.intro (d2) (And.intro (d3) (And.intro (d4) (And.intro (d5) (And.intro (d6) (And.intro (z0) (And.intro (e0) (And.intro (e1) (And.intro (lbq) (And.intro (uv) (And.intro (bb) (And.intro (beq_b) (And.intro (xa) (And.intro (lb0) (And.intro (lb1) (nq)))))))))))))))))))))))))))))
          repeat first
            | ((with_reducible apply ends_bind); case h => first | (simp only [stp, stq]; first | done | rfl) | rfl)
            | ((with_reducible apply ends_t); case h => first | rfl | (simp only [stp, stq]; done))
            | ((with_reducible apply ends_f); case h => first | rfl | (simp only [stp, stq]; done))
          exact ends_some ⟨.inl rfl, _, rfl, rfl⟩
        · skip
          have stq := (And.intro (box_agg) (And.intro (aL) (And.intro (lL) (And.intro (sL) (And.intro (zl) (And.intro (hp) (And.intro (hql) (And.intro (frz_agg) (And.intro (hw) (And.intro (n_t) (And.intro (a1) (And.intro (a2) (And.intro (d1) (And.intro (d2) (And.intro (d3) (And.intro (d4) (And.intro (d5) (And.intro (d6) (And.intro (z0) (And.intro (e0) (And.intro (e1) (And.intro (lbq) (And.intro (uv) (And.intro (bb) (And.intro (beq_b) (And.intro (xa) (And.intro (lb0) (And.intro (lb1) (nq)))))))))))))))))))))))))))))
          repeat first
            | ((with_reducible apply ends_bind); case h => first | (simp only [stp, stq]; first | done | rfl) | rfl)
            | ((with_reducible apply ends_t); case h => first | rfl | (simp only [stp, stq]; done))
            | ((with_reducible apply ends_f); case h => first | rfl | (simp only [stp, stq]; done))
          exact ends_some ⟨.inl rfl, _, rfl, rfl⟩
      · obtain rfl : y = true := by rw [hyx]; rfl
        have stq := (And.intro (box_agg) (And.intro (aL) (And.intro (lL) (And.intro (sL) (And.intro (zl) (And.intro (hp) (And.intro (hql) (And.intro (frz_agg) (And.intro (hw) (And.intro (n_t) (And.intro (a1) (And.intro (a2) (And.intro (d1) (And.intro (d2) (And.intro (d3) (And.intro (d4) (And.intro (d5) (And.intro (d6) (And.intro (z0) (And.intro (e0) (And.intro (e1) (And.intro (lbq) (And.intro (xb) (And.intro (bb) (And.intro (beq_b) (And.intro (xa) (And.intro (lb0) (And.intro (lb1) (nq)))))))))))))))))))))))))))))
        repeat first
          | ((with_reducible apply ends_bind); case h => first | (simp only [stp, stq]; first | done | rfl) | rfl)
          | ((with_reducible apply ends_t); case h => first | rfl | (simp only [stp, stq]; done))
          | ((with_reducible apply ends_f); case h => first | rfl | (simp only [stp, stq]; done))
        exact ends_some ⟨.inl rfl, _, rfl, rfl⟩
    · have e2 := O.on rfl
      subst e2
      cases x
      · have uv : ((u : Int) == (v : Int)) = y := by rw [hyx]; rfl
        cases y
        · skip
          have stq := (And.intro (box_agg) (And.intro (aL) (And.intro (lL) (And.intro (sL) (And.intro (zl) (And.intro (hp) (And.intro (frz_agg) (And.intro (hw) (And.intro (n_t) (And.intro (a1) (And.intro (a2) (And.intro (d1) (And.intro (d2) (And.intro (d3) (And.intro (d4) (And.intro (d5) (And.intro (d6) (And.intro (z0) (And.intro (e0) (And.intro (lbq) (And.intro (uv) (And.intro (bb) (beq_b)))))))))))))))))))))))
          repeat first
            | ((with_reducible apply ends_bind); case h => first | (simp only [stp, stq]; first | done | rfl) | rfl)
            | ((with_reducible apply ends_t); case h => first | rfl | (simp only [stp, stq]; done))
            | ((with_reducible apply ends_f); case h => first | rfl | (simp only [stp, stq]; done))
          exact ends_some ⟨.inl rfl, _, rfl, rfl⟩
        · exact absurd (hxw uv) (by simp)
      · obtain rfl : y = true := by rw [hyx]; rfl
        have stq := (And.intro (box_agg) (And.intro (aL) (And.intro (lL) (And.intro (sL) (And.intro (zl) (And.intro (hp) (And.intro (frz_agg) (And.intro (hw) (And.intro (n_t) (And.intro (a1) (And.intro (a2) (And.intro (d1) (And.intro (d2) (And.intro (d3) (And.intro (d4) (And.intro (d5) (And.intro (d6) (And.intro (z0) (And.intro (e0) (And.intro (lbq) (And.intro (xb) (And.intro (bb) (beq_b)))))))))))))))))))))))
        repeat first
          | ((with_reducible apply ends_bind); case h => first | (simp only [stp, stq]; first | done | rfl) | rfl)
          | ((with_reducible apply ends_t); case h => first | rfl | (simp only [stp, stq]; done))
          | ((with_reducible apply ends_f); case h => first | rfl | (simp only [stp, stq]; done))
        exact ends_some ⟨.inl rfl, _, rfl, rfl⟩
end Go.Sy
