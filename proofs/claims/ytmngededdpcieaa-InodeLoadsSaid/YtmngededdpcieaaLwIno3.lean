/-
  Layer 10: the laws InodeFields, InodePuts and InodeLoads as the reader reads them.
-/
import Derived.Test.YtmngededdpcieaaLwIno2
namespace Go.Sy
open Go.Proofs Num

theorem eq_ii (x : Ino) : binA Try.prog .eql 26 (.agg x.cells) (.agg x.cells) = some (.v (.bool true)) := by
  have h : ∀ k l s d e f g a b : Int, binA Try.prog .eql 26 (.agg (inoL k l s d e f g a b)) (.agg (inoL k l s d e f g a b)) = some (.v (.bool (k == k && (l == l && (s == s && (d == d && (e == e && (f == f && (g == g && (a == a && (b == b && true))))))))))) := by
    intro k l s d e f g a b
    kernel_rfl
  unfold Ino.cells
  rw [h]
  simp
theorem beq_self (l : List UInt8) : (l == l) = true := by simp
theorem ieq (x : Int) : (x == x) = true := by simp
theorem fB_len (x : Ino) (f : Int) (h : (fld f).2.2 = true) : ((fB x f).length : Int) = (fld f).2.1 := by
  have hf := fld_in f
  unfold fB
  rw [if_pos h, List.length_take, List.length_drop, ib_len]
  omega

theorem fields_ev (s f : Int) (x : Ino) (hx : x.ok) : cf (evFn cx0 ext0 1000) 4 [.v (.int .i64 s), .v (.int .i64 f), .agg x.cells] = some (.v (.bool true)) := by
  have hw := works_at 999 (by omega)
  have d1 : cf (evFn cx0 ext0 999) 11 [.v (.int .i64 s), .v (.int .i64 f)] = _ := Offset_ev 997 s f
  have d2 : cf (evFn cx0 ext0 999) 12 [.v (.int .i64 s), .v (.int .i64 f)] = _ := rOffset_ev 997 s f
  have d3 := Fields_ev (n := 999) (by omega) x f
  have d4 := rFields_ev (n := 999) (by omega) x hx f
  have li := fun r => ld_i0 x r
  have sm : cf (evFn cx0 ext0 999) 14 [byt false (fB x f), byt false (fB x f)] = _ := same_ev 998 _ _ false false
  rw [beq_self] at sm
  have zf : ∀ (bx : Bx) (l : List UInt8), frz bx true 6 (byt false l) = byt false l := fun bx l => frz_byt _ 5 false l
  have ln := len_b false (fB x f)
  unfold cf
  rw [E_l10_InodeFields]
  refine ends_cf (P := Try.prog) ?_
  unfold F_l10_InodeFields
  unfold offV at d1 d2
  by_cases h : (0 ≤ s ∧ s < 3) ∧ (fld f).2.2 = true
  · rw [if_pos h] at d1 d2
    rw [fB_len x f h.2] at ln
    have z := ieq (18 * s + (fld f).1)
    have z1 := ieq (fld f).2.1
    have z2 : ((0 : Int) == 0) = true := rfl
    have z3 : ((0 : Int) != 0) = false := rfl
    generalize (fld f).1 = p at *
    generalize (fld f).2.1 = q at *
    have stq := (And.intro (box_i) (And.intro (d1) (And.intro (d2) (And.intro (d3) (And.intro (d4) (And.intro (li) (And.intro (frz_i) (And.intro (zf) (And.intro (sm) (And.intro (ln) (And.intro (z) (And.intro (z1) (And.intro (z2) (And.intro (z3) (hw)))))))))))))))
    repeat first
      | ((with_reducible apply ends_bind); case h => first | (simp only [stp, stq]; first | done | rfl) | rfl)
      | ((with_reducible apply ends_t); case h => first | rfl | (simp only [stp, stq]; done))
      | ((with_reducible apply ends_f); case h => first | rfl | (simp only [stp, stq]; done))
    exact ends_some ⟨.inl rfl, _, rfl, rfl⟩
  · rw [if_neg h] at d1 d2
    have z2 : ((0 : Int) == 0) = true := rfl
    have z4 : ((2 : Int) == 2) = true := rfl
    have z3 : ((2 : Int) != 0) = true := rfl
    have stq := (And.intro (box_i) (And.intro (d1) (And.intro (d2) (And.intro (d3) (And.intro (d4) (And.intro (li) (And.intro (frz_i) (And.intro (zf) (And.intro (sm) (And.intro (ln) (And.intro (z2) (And.intro (z3) (And.intro (z4) (hw))))))))))))))
    repeat first
      | ((with_reducible apply ends_bind); case h => first | (simp only [stp, stq]; first | done | rfl) | rfl)
      | ((with_reducible apply ends_t); case h => first | rfl | (simp only [stp, stq]; done))
      | ((with_reducible apply ends_f); case h => first | rfl | (simp only [stp, stq]; done))
    exact ends_some ⟨.inl rfl, _, rfl, rfl⟩

theorem chkI_self (x : Ino) : cf (evFn cx0 ext0 999) 8 [.agg x.cells] = cf (evFn cx0 ext0 999) 9 [.agg x.cells] := by
  unfold Ino.cells
  rw [check_ev _ _ _ _ _ _ _ _ _ 999 (by omega) (by omega), rCheck_ev _ _ _ _ _ _ _ _ _ 999 (by omega) (by omega)]
theorem puts_ev (x : Ino) (hx : x.ok) (b : List UInt8) (hb : b.length = 18) : cf (evFn cx0 ext0 1000) 5 [.agg x.cells, .agg (u8l b)] = some (.v (.bool true)) := by
  have hw := works_at 999 (by omega)
  have d1 : cf (evFn cx0 ext0 999) 8 [.agg x.cells] = some (.v (.int .i64 (chkI x.k.toNat x.l.toNat x.s x.d x.e x.f x.g x.a x.b))) := check_ev _ _ _ _ _ _ _ _ _ 999 (by omega) (by omega)
  have d2 := chkI_self x
  rw [d1] at d2
  have d2 := d2.symm
  generalize chkI x.k.toNat x.l.toNat x.s x.d x.e x.f x.g x.a x.b = ck at *
  have z := ieq ck
  have d3 := IPut_ev (n := 999) (by omega) x
  have d4 := rIPut_ev (n := 999) (by omega) x hx
  have d5 := IGet_ev (n := 999) (by omega) b hb
  have d6 := rIGet_ev (n := 999) (by omega) b hb
  have hib := ib_len x
  have li := fun r => ld_i0 x r
  have a18 := al_a h18
  have zl8 : (zero 18).length = 18 := rfl
  have st := st_a h18 (bx := [x.cells, u8l b, u8l (zero 18)]) (k := 2) (b := zero 18) (c := ib x) rfl zl8 hib
  simp only [List.set_cons_succ, List.set_cons_zero] at st
  have s1 := sl_a h18 (P := Try.prog) (bx := [x.cells, u8l b, u8l (ib x)]) (k := 2) (b := ib x) rfl hib
  have s2 := sl_a h18 (P := Try.prog) (bx := [x.cells, u8l b, u8l (ib x)]) (k := 1) (b := b) rfl hb
  have l2 := ld_a h18 (P := Try.prog) (bx := [x.cells, u8l b, u8l (ib x)]) (k := 1) (b := b) rfl hb
  have f1 : frz [x.cells, u8l b, u8l (ib x)] true 6 (.bsl 2 0 18 1) = byt true (ib x) := frz_b8 true (b := ib x) (d := 4) rfl hib.symm
  have f2 : frz [x.cells, u8l b, u8l (ib x)] true 6 (.bsl 1 0 18 1) = byt true b := frz_b8 true (b := b) (d := 4) rfl hb.symm
  have sm : cf (evFn cx0 ext0 999) 14 [byt true (ib x), byt false (ib x)] = _ := same_ev 998 _ _ true false
  rw [beq_self] at sm
  have zf : ∀ (bx : Bx) (l : List UInt8), frz bx true 6 (byt false l) = byt false l := fun bx l => frz_byt _ 5 false l
  have e1 := eq_ii (gi b)
  unfold cf
  rw [E_l10_InodePuts]
  refine ends_cf (P := Try.prog) ?_
  unfold F_l10_InodePuts
  have stq := (And.intro (box_i) (And.intro (box_agg) (And.intro (d1) (And.intro (d2) (And.intro (d3) (And.intro (d4) (And.intro (d5) (And.intro (d6) (And.intro (li) (And.intro (frz_i) (And.intro (frz_agg) (And.intro (a18) (And.intro (st) (And.intro (s1) (And.intro (s2) (And.intro (l2) (And.intro (f1) (And.intro (f2) (And.intro (zf) (And.intro (sm) (And.intro (z) (And.intro (e1) (hw)))))))))))))))))))))))
  repeat first
    | ((with_reducible apply ends_bind); case h => first | (simp only [stp, stq]; first | done | rfl) | rfl)
    | ((with_reducible apply ends_t); case h => first | rfl | (simp only [stp, stq]; done))
    | ((with_reducible apply ends_f); case h => first | rfl | (simp only [stp, stq]; done))
  exact ends_some ⟨.inl rfl, _, rfl, rfl⟩

theorem st_i2 (A B : List AV) (x y : Ino) (r : Bx) : stA Try.prog 26 (A :: B :: x.cells :: r) (.bp 2 0) (.agg y.cells) = some (.v undef, A :: B :: y.cells :: r) := by
  unfold Ino.cells; kernel_rfl
theorem ld_i2 (A B : List AV) (x : Ino) (r : Bx) : loadA Try.prog 26 (A :: B :: x.cells :: r) (.bp 2 0) = some (.agg x.cells) := by
  unfold Ino.cells; kernel_rfl
theorem atV_form (p : List UInt8) (s : Int) : ∃ (y : Ino) (e : Int), atV p s = .tup [.agg y.cells, .v (.int .i64 e)] := by
  unfold atV
  split
  · exact ⟨_, _, rfl⟩
  · exact ⟨_, _, rfl⟩
theorem wiV_form (p : List UInt8) (hp : p.length = 54) (s : Int) (x : Ino) : ∃ (q : List UInt8) (e : Int), q.length = 54 ∧ wiV p s x = .tup [.agg (u8l q), .v (.int .i64 e)] := by
  unfold wiV
  split
  · exact ⟨_, _, wiL_len p hp _ (by omega) x, rfl⟩
  · exact ⟨_, _, rfl, rfl⟩
theorem offV_form (s f : Int) : ∃ a b c : Int, offV s f = .tup [.v (.int .i64 a), .v (.int .i64 b), .v (.int .i64 c)] := by
  unfold offV
  split <;> exact ⟨_, _, _, rfl⟩
theorem loads_ev (p : List UInt8) (hp : p.length = 54) (s : Int) (x : Ino) (hx : x.ok) (f : Int) : cf (evFn cx0 ext0 1000) 6 [.agg (u8l p), .v (.int .i64 s), .agg x.cells, .v (.int .i64 f)] = some (.v (.bool true)) := by
  have hw := works_at 999 (by omega)
  obtain ⟨y, e, hy⟩ := atV_form p s
  obtain ⟨q, g, hq, hwv⟩ := wiV_form p hp s x
  obtain ⟨o1, o2, o3, ho⟩ := offV_form s f
  have d1 := At_ev (n := 999) (by omega) p hp s
  have d2 := rAt_ev (n := 999) (by omega) p hp s
  have d3 := With_ev' (n := 999) (by omega) p hp s x
  have d4 := rWith_ev (n := 999) (by omega) p hp s x hx
  have d5 : cf (evFn cx0 ext0 999) 11 [.v (.int .i64 s), .v (.int .i64 f)] = _ := Offset_ev 997 s f
  have d6 : cf (evFn cx0 ext0 999) 12 [.v (.int .i64 s), .v (.int .i64 f)] = _ := rOffset_ev 997 s f
  rw [hy] at d1 d2
  rw [hwv] at d3 d4
  rw [ho] at d5 d6
  have d7 := Fields_ev (n := 999) (by omega) x f
  have d8 := rFields_ev (n := 999) (by omega) x hx f
  have lp := fun r => ld_a hL (bx := u8l p :: r) (k := 0) (b := p) rfl hp
  have li := fun r => ld_i1 (u8l p) x r
  have aL := al_a hL
  have zl : (zero 54).length = 54 := rfl
  have sL := sts hL
  have lL := lds hL
  have st1 := fun r => st_i2 (u8l p) x.cells zI y r
  have st2 := fun r => st_i3 (u8l p) x.cells y.cells zI y r
  have l1 := fun r => ld_i2 (u8l p) x.cells y r
  have l2 := fun r => ld_i3 (u8l p) x.cells y.cells y r
  have t1 := st_a hL (bx := [u8l p, x.cells, y.cells, y.cells, u8l (zero 54)]) (k := 4) (b := zero 54) (c := q) rfl zl hq
  have t2 := st_a hL (bx := [u8l p, x.cells, y.cells, y.cells, u8l q, u8l (zero 54)]) (k := 5) (b := zero 54) (c := q) rfl zl hq
  have u1 := ld_a hL (bx := [u8l p, x.cells, y.cells, y.cells, u8l q, u8l q]) (k := 4) (b := q) rfl hq
  have u2 := ld_a hL (bx := [u8l p, x.cells, y.cells, y.cells, u8l q, u8l q]) (k := 5) (b := q) rfl hq
  simp only [List.set_cons_succ, List.set_cons_zero] at t1 t2
  have e1 := eq_ii y
  have e2 := (eq_a hL (P := Try.prog) (a := q) (b := q) hq hq).1
  rw [beq_self] at e2
  have z1 := ieq e
  have z2 := ieq g
  have z3 := ieq o1
  have z4 := ieq o2
  have z5 := ieq o3
  have sm : cf (evFn cx0 ext0 999) 14 [byt false (fB x f), byt false (fB x f)] = _ := same_ev 998 _ _ false false
  rw [beq_self] at sm
  have zf : ∀ (bx : Bx) (l : List UInt8), frz bx true 6 (byt false l) = byt false l := fun bx l => frz_byt _ 5 false l
  unfold cf
  rw [E_l10_InodeLoads]
  refine ends_cf (P := Try.prog) ?_
  unfold F_l10_InodeLoads
  have stq := (And.intro (box_i) (And.intro (box_agg) (And.intro (d1) (And.intro (d2) (And.intro (d3) (And.intro (d4) (And.intro (d5) (And.intro (d6) (And.intro (d7) (And.intro (d8) (And.intro (lp) (And.intro (li) (And.intro (frz_i) (And.intro (frz_agg) (And.intro (aL) (And.intro (al_i) (And.intro (st1) (And.intro (st2) (And.intro (l1) (And.intro (l2) (And.intro (t1) (And.intro (t2) (And.intro (u1) (And.intro (u2) (And.intro (e1) (And.intro (e2) (And.intro (z1) (And.intro (z2) (And.intro (z3) (And.intro (z4) (And.intro (z5) (And.intro (zf) (And.intro (sm) (hw))))))))))))))))))))))))))))))))))
  repeat first
    | ((with_reducible apply ends_bind); case h => first | (simp only [stp, stq]; first | done | rfl) | rfl)
    | ((with_reducible apply ends_t); case h => first | rfl | (simp only [stp, stq]; done))
    | ((with_reducible apply ends_f); case h => first | rfl | (simp only [stp, stq]; done))
  exact ends_some ⟨.inl rfl, _, rfl, rfl⟩
end Go.Sy
