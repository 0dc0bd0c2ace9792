/-
  Layer 09's laws MapsFirst, MapsHeads, MapsTells as the reader reads them.
-/
import Derived.Test.YtapjcmloaeaefaaPfMaps3
namespace Go.Sy
open Go.Proofs Num Go.Proofs.Ytapjcmloaeaefaa

theorem beq_b (p q : Bool) : binA Try.prog .eql 4 (.v (.bool p)) (.v (.bool q)) = some (.v (.bool (p == q))) := by
  cases p <;> cases q <;> kernel_rfl
theorem bb (b : Bool) : (b == b) = true := by cases b <;> rfl
theorem ib (i : Int) : (i == i) = true := by simp
theorem lbq (l : List UInt8) : (l == l) = true := by simp
theorem n_t : (!true) = false := rfl
theorem n_f : (!false) = true := rfl
theorem takV_form (p : List UInt8) (k i : Int) : ∃ x e, takV p k i = .tup [.v (.bool x), .v (.int .i64 e)] := by
  unfold takV
  split
  · exact ⟨_, _, rfl⟩
  · exact ⟨_, _, rfl⟩
theorem setV_form (p : List UInt8) (hp : p.length = 54) (k i : Int) (on : Bool) : ∃ q e, setV p k i on = .tup [.agg (u8l q), .v (.int .i64 e)] ∧ q.length = 54 := by
  unfold setV
  split
  · exact ⟨_, _, rfl, by rw [withB_len, hp]⟩
  · exact ⟨_, _, rfl, rfl⟩
theorem byteV_form (k i : Int) : ∃ x e, byteV k i = .tup [.v (.int .i64 x), .v (.int .i64 e)] := by
  unfold byteV
  split
  · exact ⟨_, _, rfl⟩
  · exact ⟨_, _, rfl⟩

set_option maxRecDepth 100000 in
theorem first_ev (p : List UInt8) (hp : p.length = 54) (a b c k f : Int) (hf : f < 2 ^ 63) (hf0 : -9223372036854775808 ≤ f) : cf (evFn cx0 ext0 1000) 3 [.agg (u8l p), gV a b c, .v (.int .i64 k), .v (.int .i64 f)] = some (.v (.bool true)) := by
  have hw := works_at 999 (by omega)
  have c1 := MFirst_ev (n := 999) (by omega) p hp a b c k f hf
  have c3 := rMFirst_ev (n := 999) (by omega) p hp a b c k f hf hf0
  have lg := fun r => lg1 (u8l p) a b c r
  have lp := fun r => ld_a hL (P := Try.prog) (bx := u8l p :: r) (k := 0) (b := p) rfl hp
  have hml := many_le a b c k
  unfold cf
  rw [E_l09_MapsFirst]
  refine ends_cf (P := Try.prog) ?_
  unfold F_l09_MapsFirst
  have sp := fst0_spec (mp p k) (manyN a b c k - frm f) (frm f)
  change frst p a b c k f = -1 ∨ ∃ j : Nat, frst p a b c k f = j ∧ _ at sp
  rcases sp with h | ⟨j, h, h1, h2, h3, _⟩
  · rw [h] at c1 c3
    have mm : minL true (.v (.int .i64 (-1))) [.v (.int .i64 0)] = some (.v (.int .i64 0)) := rfl
    have c2 := Taken_ev (n := 999) (by omega) p hp k 0
    obtain ⟨x, e, hx⟩ := takV_form p k 0
    rw [hx] at c2
    have g0 : decide ((-1 : Int) < 0) = true := rfl
    have stq := (And.intro (box_agg) (And.intro (bx_g) (And.intro (lg) (And.intro (frz_g) (And.intro (lp) (And.intro (frz_agg) (And.intro (c1) (And.intro (c3) (And.intro (mm) (And.intro (c2) (And.intro (ib) (And.intro (g0) (hw)))))))))))))
    repeat first
      | ((with_reducible apply ends_bind); case h => first | (simp only [stp, stq]; first | done | rfl) | rfl)
      | ((with_reducible apply ends_t); case h => first | rfl | (simp only [stp, stq]; done))
      | ((with_reducible apply ends_f); case h => first | rfl | (simp only [stp, stq]; done))
    exact ends_some ⟨.inl rfl, _, rfl, rfl⟩
  · rw [h] at c1 c3
    have hj : j < manyN a b c k := by omega
    have hok := ok_many hj
    have mm : minL true (.v (.int .i64 j)) [.v (.int .i64 0)] = some (.v (.int .i64 j)) := by
      have : minL true (.v (.int .i64 j)) [.v (.int .i64 0)] = some (.v (.int .i64 (if 0 > (j : Int) then 0 else (j : Int)))) := rfl
      rw [this, if_neg (by omega)]
    have c2 := Taken_ev (n := 999) (by omega) p hp k j
    rw [show takV p k j = _ from if_pos hok, bit_mp p k j hok, Int.toNat_natCast, h3] at c2
    have g0 : decide ((j : Int) < 0) = false := decide_eq_false (by omega)
    have stq := (And.intro (box_agg) (And.intro (bx_g) (And.intro (lg) (And.intro (frz_g) (And.intro (lp) (And.intro (frz_agg) (And.intro (c1) (And.intro (c3) (And.intro (mm) (And.intro (c2) (And.intro (ib) (And.intro (g0) (And.intro (n_f) (hw))))))))))))))
    repeat first
      | ((with_reducible apply ends_bind); case h => first | (simp only [stp, stq]; first | done | rfl) | rfl)
      | ((with_reducible apply ends_t); case h => first | rfl | (simp only [stp, stq]; done))
      | ((with_reducible apply ends_f); case h => first | rfl | (simp only [stp, stq]; done))
    exact ends_some ⟨.inl rfl, _, rfl, rfl⟩
theorem right_hd (g o : Int) (hg : 0 ≤ g ∧ g < 8) : rightV (hd g) o = (o == g) := by
  unfold rightV
  by_cases ho : 0 ≤ o ∧ o < 8
  · rw [decide_eq_true ho, Bool.true_and]
    by_cases h : o = g
    · subst h
      simp
    · have h1 : (o == g) = false := by simpa using h
      rw [h1]
      have : hd g ≠ hd o := by
        unfold hd
        rw [if_pos hg, if_pos ho]
        intro hc
        have := (List.cons.inj hc).1
        have := congrArg UInt8.toNat this
        simp only [UInt8.toNat_ofNat'] at this
        omega
      simpa using this
  · rw [decide_eq_false ho, Bool.false_and]
    have : ¬ o = g := by omega
    simpa using this
set_option maxRecDepth 100000 in
theorem heads_ev (g : Int) (p : List UInt8) (hp : p.length = 54) (o : Int) : cf (evFn cx0 ext0 1000) 5 [.v (.int .i64 g), .agg (u8l p), .v (.int .i64 o)] = some (.v (.bool true)) := by
  have hw := works_at 999 (by omega)
  have c1 : cf (evFn cx0 ext0 999) 15 [.v (.int .i64 g)] = _ := Head_ev 987 g
  have c2 : cf (evFn cx0 ext0 999) 16 [.v (.int .i64 g)] = _ := rHead_ev 987 g
  have c3 : cf (evFn cx0 ext0 999) 17 [.agg (u8l p), .v (.int .i64 o)] = _ := HeadRight_ev 986 p hp o
  have c4 : cf (evFn cx0 ext0 999) 18 [.agg (u8l p), .v (.int .i64 o)] = _ := rHeadRight_ev 986 p hp o
  have c5 : cf (evFn cx0 ext0 999) 17 [.agg (u8l (hd g)), .v (.int .i64 o)] = _ := HeadRight_ev 986 (hd g) (hd_len g) o
  unfold headV at c1 c2
  have aL := al_a hL (P := Try.prog)
  have lL := lds hL (P := Try.prog)
  have sL := sts hL (P := Try.prog)
  have zl : z54.length = 54 := rfl
  have hl := hd_len g
  have e1 := (eq_a hL (P := Try.prog) (a := hd g) (b := hd g) hl hl).1
  unfold cf
  rw [E_l09_MapsHeads]
  refine ends_cf (P := Try.prog) ?_
  unfold F_l09_MapsHeads
  by_cases h : 0 ≤ g ∧ g < 8
  · rw [show hdE g = 0 from if_pos h] at c1 c2
    rw [right_hd g o h] at c5
    have z0 : ((0 : Int) != 0) = false := rfl
    have stq := (And.intro (box_agg) (And.intro (aL) (And.intro (lL) (And.intro (sL) (And.intro (zl) (And.intro (hp) (And.intro (hl) (And.intro (frz_agg) (And.intro (c1) (And.intro (c2) (And.intro (c3) (And.intro (c4) (And.intro (c5) (And.intro (e1) (And.intro (lbq) (And.intro (ib) (And.intro (bb) (And.intro (beq_b) (And.intro (z0) (hw))))))))))))))))))))
    repeat first
      | ((with_reducible apply ends_bind); case h => first | (simp only [stp, stq]; first | done | rfl) | rfl)
      | ((with_reducible apply ends_t); case h => first | rfl | (simp only [stp, stq]; done))
      | ((with_reducible apply ends_f); case h => first | rfl | (simp only [stp, stq]; done))
    exact ends_some ⟨.inl rfl, _, rfl, rfl⟩
  · rw [show hdE g = 2 from if_neg h] at c1 c2
    have z0 : ((2 : Int) != 0) = true := rfl
    have stq := (And.intro (box_agg) (And.intro (aL) (And.intro (lL) (And.intro (sL) (And.intro (zl) (And.intro (hp) (And.intro (hl) (And.intro (frz_agg) (And.intro (c1) (And.intro (c2) (And.intro (c3) (And.intro (c4) (And.intro (e1) (And.intro (lbq) (And.intro (ib) (And.intro (bb) (And.intro (beq_b) (And.intro (z0) (hw)))))))))))))))))))
    repeat first
      | ((with_reducible apply ends_bind); case h => first | (simp only [stp, stq]; first | done | rfl) | rfl)
      | ((with_reducible apply ends_t); case h => first | rfl | (simp only [stp, stq]; done))
      | ((with_reducible apply ends_f); case h => first | rfl | (simp only [stp, stq]; done))
    exact ends_some ⟨.inl rfl, _, rfl, rfl⟩
set_option maxRecDepth 100000 in
theorem tells_ev (p : List UInt8) (hp : p.length = 54) (g k i : Int) (on : Bool) : cf (evFn cx0 ext0 1000) 6 [.agg (u8l p), .v (.int .i64 g), .v (.int .i64 k), .v (.int .i64 i), .v (.bool on)] = some (.v (.bool true)) := by
  have hw := works_at 999 (by omega)
  have c1 : cf (evFn cx0 ext0 999) 15 [.v (.int .i64 g)] = _ := Head_ev 987 g
  have c2 : cf (evFn cx0 ext0 999) 16 [.v (.int .i64 g)] = _ := rHead_ev 987 g
  have c3 : cf (evFn cx0 ext0 999) 17 [.agg (u8l p), .v (.int .i64 g)] = _ := HeadRight_ev 986 p hp g
  have c4 : cf (evFn cx0 ext0 999) 18 [.agg (u8l p), .v (.int .i64 g)] = _ := rHeadRight_ev 986 p hp g
  have c5 : cf (evFn cx0 ext0 999) 17 [.agg (u8l (hd g)), .v (.int .i64 g)] = _ := HeadRight_ev 986 (hd g) (hd_len g) g
  unfold headV at c1 c2
  have d1 := Taken_ev (n := 999) (by omega) p hp k i
  have d2 := rTaken_ev (n := 999) (by omega) p hp k i
  have d3 := With_ev' (n := 999) (by omega) p hp k i on
  have d4 := rWith_ev' (n := 999) (by omega) p hp k i on
  have d5 : cf (evFn cx0 ext0 999) 14 [.v (.int .i64 k), .v (.int .i64 i)] = _ := Byte_ev 997 k i
  have d6 : cf (evFn cx0 ext0 999) 21 [.v (.int .i64 k), .v (.int .i64 i)] = _ := rByte_ev 997 k i
  obtain ⟨x, e, hx⟩ := takV_form p k i
  obtain ⟨q, e', hq, hql⟩ := setV_form p hp k i on
  obtain ⟨y, e'', hy⟩ := byteV_form k i
  rw [hx] at d1 d2
  rw [hq] at d3 d4
  rw [hy] at d5 d6
  have aL := al_a hL (P := Try.prog)
  have lL := lds hL (P := Try.prog)
  have sL := sts hL (P := Try.prog)
  have zl : z54.length = 54 := rfl
  have hl := hd_len g
  have e1 := (eq_a hL (P := Try.prog) (a := hd g) (b := hd g) hl hl).1
  have e2 := (eq_a hL (P := Try.prog) (a := q) (b := q) hql hql).1
  unfold cf
  rw [E_l09_MapsTells]
  refine ends_cf (P := Try.prog) ?_
  unfold F_l09_MapsTells
  by_cases h : 0 ≤ g ∧ g < 8
  · rw [show hdE g = 0 from if_pos h] at c1 c2
    rw [right_hd g g h, ib] at c5
    have z0 : ((0 : Int) == 0) = true := rfl
    have stq := (And.intro (box_agg) (And.intro (aL) (And.intro (lL) (And.intro (sL) (And.intro (zl) (And.intro (hp) (And.intro (hl) (And.intro (hql) (And.intro (frz_agg) (And.intro (c1) (And.intro (c2) (And.intro (c3) (And.intro (c4) (And.intro (c5) (And.intro (d1) (And.intro (d2) (And.intro (d3) (And.intro (d4) (And.intro (d5) (And.intro (d6) (And.intro (e1) (And.intro (e2) (And.intro (lbq) (And.intro (ib) (And.intro (bb) (And.intro (beq_b) (And.intro (z0) (hw))))))))))))))))))))))))))))
    repeat first
      | ((with_reducible apply ends_bind); case h => first | (simp only [stp, stq]; first | done | rfl) | rfl)
      | ((with_reducible apply ends_t); case h => first | rfl | (simp only [stp, stq]; done))
      | ((with_reducible apply ends_f); case h => first | rfl | (simp only [stp, stq]; done))
    exact ends_some ⟨.inl rfl, _, rfl, rfl⟩
  · rw [show hdE g = 2 from if_neg h] at c1 c2
    rw [show rightV (hd g) g = false by unfold rightV; rw [decide_eq_false h]; rfl] at c5
    have z0 : ((2 : Int) == 0) = false := rfl
    have stq := (And.intro (box_agg) (And.intro (aL) (And.intro (lL) (And.intro (sL) (And.intro (zl) (And.intro (hp) (And.intro (hl) (And.intro (hql) (And.intro (frz_agg) (And.intro (c1) (And.intro (c2) (And.intro (c3) (And.intro (c4) (And.intro (c5) (And.intro (d1) (And.intro (d2) (And.intro (d3) (And.intro (d4) (And.intro (d5) (And.intro (d6) (And.intro (e1) (And.intro (e2) (And.intro (lbq) (And.intro (ib) (And.intro (bb) (And.intro (beq_b) (And.intro (z0) (hw))))))))))))))))))))))))))))
    repeat first
      | ((with_reducible apply ends_bind); case h => first | (simp only [stp, stq]; first | done | rfl) | rfl)
      | ((with_reducible apply ends_t); case h => first | rfl | (simp only [stp, stq]; done))
      | ((with_reducible apply ends_f); case h => first | rfl | (simp only [stp, stq]; done))
    exact ends_some ⟨.inl rfl, _, rfl, rfl⟩
theorem fits_geom {l : List AV} (h : ShFits [.int .i64, .int .i64, .int .i64] l) : ∃ x : Int × Int × Int, True ∧ l = [.v (.int .i64 x.1), .v (.int .i64 x.2.1), .v (.int .i64 x.2.2)] := by
  match l, h with
  | [a, b, c], h =>
    obtain ⟨a, rfl, _⟩ := fit_i64 (h.2 0 a _ rfl rfl)
    obtain ⟨b, rfl, _⟩ := fit_i64 (h.2 1 b _ rfl rfl)
    obtain ⟨c, rfl, _⟩ := fit_i64 (h.2 2 c _ rfl rfl)
    exact ⟨(a, b, c), trivial, rfl⟩
  | [], h => simp [ShFits] at h
  | [_], h => simp [ShFits] at h
  | [_, _], h => simp [ShFits] at h
  | _ :: _ :: _ :: _ :: _, h => simp [ShFits] at h
end Go.Sy
