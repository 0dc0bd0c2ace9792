/-
  Layer 15: the document's rolls; the same patches.
-/
import Derived.Test.YtmkdhgigghgieaaPfRollB
namespace Go.Sy
open Go.Proofs Num Crc Seal

/-! ## the same patches -/
theorem sameInts_ev {n : Nat} (f g : Bool) (l : List Int) (hn : l.length + 2 ≤ n) (hl : l.length < 2 ^ 32) :
    cf (evFn cx0 ext0 n) 50 [isl f l, isl g l] = some (.v (.bool true)) := by
  obtain ⟨m, rfl⟩ : ∃ m, n = m + 1 := ⟨n - 1, by omega⟩
  have ln := len_i f l
  have ln2 := len_i g l
  unfold cf
  rw [E_base_SameInts]
  refine ends_cf (P := Try.prog) ?_
  unfold F_base_SameInts
  have stq := (And.intro (ln) (ln2))
  repeat first
    | ((with_reducible apply ends_bind); case h => first | (simp only [stp, stq]; first | done | rfl) | rfl)
    | ((with_reducible apply ends_t); case h => first | rfl | (simp only [stp, stq]; done))
    | ((with_reducible apply ends_f); case h => first | rfl | (simp only [stp, stq]; done))
  refine ends_loop (fun d s => ∃ (j : Nat) (y10 y4 : AV), s = ⟨[(5, .v (.int .i64 j)), (10, y10), (4, y4), (0, isl f l), (1, isl g l)], []⟩ ∧ j + d = l.length) l.length (by omega) ⟨0, _, _, rfl, by omega⟩ ?_
  rintro d s ⟨j, y10, y4, rfl, hd⟩
  refine L_base_SameInts_0_lit ?_
  unfold B_base_SameInts_0
  by_cases hx : j < l.length
  · have g0 : decide ((j : Int) < (l.length : Int)) = true := decide_eq_true (by omega)
    have i0 := idx_i f l j hx
    have i1 := idx_i g l j hx
    have l0 := fun bx => ld_i bx f l[j] (il (l.drop (j + 1)))
    have l1 := fun bx => ld_i bx g l[j] (il (l.drop (j + 1)))
    have e3 : IntKind.i64.wrap ((j : Int) + 1) = ((j + 1 : Nat) : Int) := by rw [wrap64]; omega
    have stq := (And.intro (ln) (And.intro (g0) (And.intro (i0) (And.intro (i1) (And.intro (l0) (And.intro (l1) (e3)))))))
    repeat first
      | ((with_reducible apply ends_bind); case h => first | (simp only [stp, stq]; first | done | rfl) | rfl)
      | ((with_reducible apply ends_t); case h => first | rfl | (simp only [stp, stq]; done))
      | ((with_reducible apply ends_f); case h => first | rfl | (simp only [stp, stq]; done))
    exact ends_some (.inl ⟨rfl, d - 1, by omega, j + 1, _, _, by first | rfl | (rw [← e3]; rfl), by omega⟩)
  · have g0 : decide ((j : Int) < (l.length : Int)) = false := decide_eq_false (by omega)
    have stq := (And.intro (ln) (g0))
    repeat first
      | ((with_reducible apply ends_bind); case h => first | (simp only [stp, stq]; first | done | rfl) | rfl)
      | ((with_reducible apply ends_t); case h => first | rfl | (simp only [stp, stq]; done))
      | ((with_reducible apply ends_f); case h => first | rfl | (simp only [stp, stq]; done))
    exact ends_some (.inr (.inl ⟨0, rfl, X_base_SameInts_0_0_lit (ends_some ⟨.inl rfl, _, rfl, rfl⟩)⟩))
theorem conv_s (bx : Bx) (b : List UInt8) (f : Bool) : convA Try.prog bx 31 9 (byt f b) = some (.v (.string ⟨b.toArray⟩), bx) := by
  have h : convA Try.prog bx 31 9 (.sl b.length (u8l b) f) = if inA Try.prog 5 = some .u8 ∧ (u8l b).length = b.length then (bytesA (u8l b)).map fun l => (.v (.string ⟨l.toArray⟩), bx) else none := by kernel_rfl
  rw [h, if_pos ⟨by kernel_rfl, u8l_len b⟩, u8l_bytes]
  rfl
theorem str_eqs (a : List UInt8) : binA Try.prog .eql 9 (.v (.string ⟨a.toArray⟩)) (.v (.string ⟨a.toArray⟩)) = some (.v (.bool true)) := by
  have h : binA Try.prog .eql 9 (.v (.string ⟨a.toArray⟩)) (.v (.string ⟨a.toArray⟩)) = some (.v (.bool ((⟨a.toArray⟩ : ByteArray).toList == (⟨a.toArray⟩ : ByteArray).toList))) := by kernel_rfl
  rw [h]
  simp
theorem fa_pp (j : Nat) : fieldAddrA Try.prog 34 (.bp j 0) 0 = some (.bp j 0) ∧ fieldAddrA Try.prog 34 (.bp j 0) 1 = some (.bp j 1) ∧ fieldAddrA Try.prog 34 (.bp j 0) 2 = some (.bp j 2) ∧ fieldAddrA Try.prog 34 (.bp j 0) 3 = some (.bp j 3) ∧ fieldAddrA Try.prog 34 (.bp j 0) 4 = some (.bp j 4) ∧ fieldAddrA Try.prog 34 (.bp j 0) 5 = some (.bp j 5) ∧ fieldAddrA Try.prog 34 (.bp j 0) 6 = some (.bp j 6) ∧ fieldAddrA Try.prog 34 (.bp j 0) 7 = some (.bp j 7) ∧ fieldAddrA Try.prog 34 (.bp j 0) 8 = some (.bp j 8) := ⟨by kernel_rfl, by kernel_rfl, by kernel_rfl, by kernel_rfl, by kernel_rfl, by kernel_rfl, by kernel_rfl, by kernel_rfl, by kernel_rfl⟩
theorem ld_p0 (f : Bool) (p : Pt) (r : Bx) : loadA Try.prog 3 (pt f p :: r) (.bp 0 0) = some (.v (.int .i64 p.id)) ∧ loadA Try.prog 3 (pt f p :: r) (.bp 0 1) = some (.v (.int .i64 p.atS)) ∧ loadA Try.prog 3 (pt f p :: r) (.bp 0 2) = some (.v (.int .i64 p.off)) ∧ loadA Try.prog 31 (pt f p :: r) (.bp 0 3) = some (byt f p.data) ∧ loadA Try.prog 3 (pt f p :: r) (.bp 0 4) = some (.v (.int .i64 p.kind)) ∧ loadA Try.prog 32 (pt f p :: r) (.bp 0 5) = some (isl f p.needs) ∧ loadA Try.prog 3 (pt f p :: r) (.bp 0 6) = some (.v (.int .i64 p.own)) ∧ loadA Try.prog 3 (pt f p :: r) (.bp 0 7) = some (.v (.int .i64 p.child)) ∧ loadA Try.prog 4 (pt f p :: r) (.bp 0 8) = some (.v (.bool p.wr)) ∧ loadA Try.prog 34 (pt f p :: r) (.bp 0 0) = some (.agg (pt f p)) := ⟨by kernel_rfl, by kernel_rfl, by kernel_rfl, by kernel_rfl, by kernel_rfl, by kernel_rfl, by kernel_rfl, by kernel_rfl, by kernel_rfl, by kernel_rfl⟩
theorem ld_p1 (A : List AV) (f : Bool) (p : Pt) (r : Bx) : loadA Try.prog 3 (A :: pt f p :: r) (.bp 1 0) = some (.v (.int .i64 p.id)) ∧ loadA Try.prog 3 (A :: pt f p :: r) (.bp 1 1) = some (.v (.int .i64 p.atS)) ∧ loadA Try.prog 3 (A :: pt f p :: r) (.bp 1 2) = some (.v (.int .i64 p.off)) ∧ loadA Try.prog 31 (A :: pt f p :: r) (.bp 1 3) = some (byt f p.data) ∧ loadA Try.prog 3 (A :: pt f p :: r) (.bp 1 4) = some (.v (.int .i64 p.kind)) ∧ loadA Try.prog 32 (A :: pt f p :: r) (.bp 1 5) = some (isl f p.needs) ∧ loadA Try.prog 3 (A :: pt f p :: r) (.bp 1 6) = some (.v (.int .i64 p.own)) ∧ loadA Try.prog 3 (A :: pt f p :: r) (.bp 1 7) = some (.v (.int .i64 p.child)) ∧ loadA Try.prog 4 (A :: pt f p :: r) (.bp 1 8) = some (.v (.bool p.wr)) ∧ loadA Try.prog 34 (A :: pt f p :: r) (.bp 1 0) = some (.agg (pt f p)) := ⟨by kernel_rfl, by kernel_rfl, by kernel_rfl, by kernel_rfl, by kernel_rfl, by kernel_rfl, by kernel_rfl, by kernel_rfl, by kernel_rfl, by kernel_rfl⟩
theorem bool_eqs (b : Bool) : binA Try.prog .eql 4 (.v (.bool b)) (.v (.bool b)) = some (.v (.bool true)) := by
  have h : binA Try.prog .eql 4 (.v (.bool b)) (.v (.bool b)) = some (.v (.bool (b == b))) := by kernel_rfl
  rw [h]
  simp
theorem sameIs_ev {n : Nat} (p : Pt) (hn : p.needs.length + 4 ≤ n) (hl : p.needs.length < 2 ^ 32) :
    cf (evFn cx0 ext0 n) 39 [.agg (pt false p), .agg (pt false p)] = some (.v (.bool true)) := by
  obtain ⟨m, rfl⟩ : ∃ m, n = m + 1 := ⟨n - 1, by omega⟩
  have c1 := sameInts_ev (n := m) false false p.needs (by omega) hl
  have cs := fun bx => conv_s bx p.data false
  have es := str_eqs p.data
  have eb := bool_eqs p.wr
  have l0 := fun r => ld_p0 false p r
  have l1 := fun A r => ld_p1 A false p r
  have fz := fun bx => frz_isl bx false p.needs
  unfold cf
  rw [E_l14_sameIs]
  refine ends_cf (P := Try.prog) ?_
  unfold F_l14_sameIs
  have stq := (And.intro (box_agg) (And.intro (fa_pp) (And.intro (l0) (And.intro (l1) (And.intro (cs) (And.intro (es) (And.intro (eb) (And.intro (fz) (c1)))))))))
  repeat first
    | ((with_reducible apply ends_bind); case h => first | (simp only [stp, stq]; first | done | rfl) | rfl)
    | ((with_reducible apply ends_t); case h => first | rfl | (simp only [stp, stq]; done))
    | ((with_reducible apply ends_f); case h => first | rfl | (simp only [stp, stq]; done))
  exact ends_some ⟨.inl rfl, _, rfl, rfl⟩
theorem Same_ev {n : Nat} (p : Pt) (hn : p.needs.length + 6 ≤ n) (hl : p.needs.length < 2 ^ 32) :
    cf (evFn cx0 ext0 n) 23 [.agg (pt false p), .agg (pt false p)] = some (.v (.int .i64 1)) := by
  obtain ⟨m, rfl⟩ : ∃ m, n = m + 1 := ⟨n - 1, by omega⟩
  have c1 := sameIs_ev (n := m) p (by omega) hl
  have l0 := fun r => ld_p0 false p r
  have l1 := fun A r => ld_p1 A false p r
  have fz : ∀ bx, frz bx true 6 (.agg (pt false p)) = .agg (pt false p) := fun bx => rfl
  unfold cf
  rw [E_l14_Same]
  refine ends_cf (P := Try.prog) ?_
  unfold F_l14_Same
  have stq := (And.intro (box_agg) (And.intro (l0) (And.intro (l1) (And.intro (fz) (c1)))))
  repeat first
    | ((with_reducible apply ends_bind); case h => first | (simp only [stp, stq]; first | done | rfl) | rfl)
    | ((with_reducible apply ends_t); case h => first | rfl | (simp only [stp, stq]; done))
    | ((with_reducible apply ends_f); case h => first | rfl | (simp only [stp, stq]; done))
  exact ends_some ⟨.inl rfl, _, rfl, rfl⟩

/-! ## one patch, byte by byte -/
theorem ld_ip1 (bx : Bx) (x : AV) (r : List AV) (f : Bool) : loadA Try.prog 5 bx (.ip (x :: r) f) = some x := by kernel_rfl
theorem sz8 : szA Try.prog 5 = some 1 := by kernel_rfl
theorem lq_set (o : Nat) (b d : List UInt8) (h : o + d.length ≤ b.length) (j : Nat) (hj : j < d.length) : (lq o b (d.take j)).set (o + j) d[j] = lq o b (d.take (j + 1)) := by
  unfold lq
  have h1 : (d.take j).length = j := by rw [List.length_take]; omega
  have h2 : (d.take (j + 1)).length = j + 1 := by rw [List.length_take]; omega
  have h3 : (b.take o ++ d.take j).length = o + j := by rw [List.length_append, h1, List.length_take]; omega
  rw [h1, h2, List.set_append_right _ _ (by omega), h3, Nat.sub_self, List.drop_eq_getElem_cons (show o + j < b.length by omega), List.set_cons_zero, List.take_succ_eq_append_getElem hj]
  simp only [List.append_assoc, List.cons_append, List.nil_append, Nat.add_assoc]
theorem lq_nil (o : Nat) (b d : List UInt8) : lq o b (d.take 0) = b := by
  unfold lq
  simp
theorem lq_lenj (o : Nat) (b d : List UInt8) (h : o + d.length ≤ b.length) (j : Nat) (hj : j ≤ d.length) : (lq o b (d.take j)).length = b.length := by
  unfold lq
  have h1 : (d.take j).length = j := by rw [List.length_take]; omega
  rw [List.length_append, List.length_append, h1, List.length_take, List.length_drop]
  omega
theorem rLay_ev {n : Nat} (hn : 460 ≤ n) (b : List UInt8) (hb : b.length = 64) (p : Pt) (hp : p.data.length < 2 ^ 32) (t : Nat) (ht : t < 4294967296) :
    cf (evFn cx0 ext0 n) 35 [.agg (u8l b), .agg (pt false p), .v (.int .u32 t)] = some (if badP p then overV b none else overV b (some (layB b t p))) := by
  obtain ⟨m, rfl⟩ : ∃ m, n = m + 2 := ⟨n - 2, by omega⟩
  have ln : lenA Try.prog 31 (byt false p.data) = some (.v (.int .i64 (p.data.length : Int))) := len_b _ _
  have lp := fun r => ld_pt1 false (u8l b) p r
  have lB := lds hB
  have lL := lds hL
  have sL := sts hL
  have sB := sts hB
  have aL := al_a hL
  have aB := al_a hB
  have zl : (zero 54).length = 54 := rfl
  have zl6 : (zero 64).length = 64 := rfl
  have s2 := st_a hB (P := Try.prog) (bx := [u8l b, pt false p, u8l (zero 64)]) (k := 2) (b := zero 64) (c := b) rfl zl6 hb
  simp only [List.set_cons_succ, List.set_cons_zero] at s2
  have stop : ∀ env : Env, get env 6 = .bp 2 0 → get env 7 = .v (.int .i64 2) → Ends (some (Ex.ret, (⟨env, [u8l b, pt false p, u8l b]⟩ : S))) (RetQ Try.prog [.cell 6 23, .tmp 7] (overV b none)) := by
    intro env h6 h7
    have := retq_ct (P := Try.prog) (a := 6) (t := 23) (u := 7) (env := env) (bx := [u8l b, pt false p, u8l b]) (by rw [h6]; exact ld_a hB (b := b) rfl hb) (frz_agg _ _ _ _)
    rw [h7] at this
    exact ends_some this
  unfold cf
  rw [E_r15_Lay]
  refine ends_cf (P := Try.prog) ?_
  unfold F_r15_Lay
  by_cases hk : p.kind = 0
  · have zn : (p.kind != 0) = false := by simp [hk]
    have z : (p.kind == 0) = true := by simp [hk]
    have hr : rm p.kind = 64 := by unfold rm; rw [if_pos hk]
    have g5 : IntKind.i64.wrap ((64 : Int) - (p.data.length : Int)) = (64 : Int) - (p.data.length : Int) := by rw [wrap64]; omega
    have g1 : decide (p.kind < 0) = false := decide_eq_false (by omega)
    have g2 : decide (6 < p.kind) = false := decide_eq_false (by omega)
    by_cases q3 : (64 : Int) < p.data.length
    · have g3 : decide ((64 : Int) < p.data.length) = true := decide_eq_true q3
      rw [if_pos (show badP p by unfold badP; rw [hr]; omega)]
      have stq := (And.intro (box_agg) (And.intro (aB) (And.intro (lB) (And.intro (hb) (And.intro (zl6) (And.intro (fa_pc) (And.intro (lp) (And.intro (ln) (And.intro (zn) (And.intro (g1) (And.intro (g2) (And.intro (g3) (s2)))))))))))))
      repeat first
        | ((with_reducible apply ends_bind); case h => first | (simp only [stp, stq]; first | done | rfl) | rfl)
        | ((with_reducible apply ends_t); case h => first | rfl | (simp only [stp, stq]; done))
        | ((with_reducible apply ends_f); case h => first | rfl | (simp only [stp, stq]; done))
      exact stop _ rfl rfl
    have g3 : decide ((64 : Int) < p.data.length) = false := decide_eq_false q3
    by_cases q4 : p.off < 0
    · have g4 : decide (p.off < 0) = true := decide_eq_true q4
      rw [if_pos (show badP p by unfold badP; rw [hr]; omega)]
      have stq := (And.intro (box_agg) (And.intro (aB) (And.intro (lB) (And.intro (hb) (And.intro (zl6) (And.intro (fa_pc) (And.intro (lp) (And.intro (ln) (And.intro (zn) (And.intro (g1) (And.intro (g2) (And.intro (g3) (And.intro (g4) (s2))))))))))))))
      repeat first
        | ((with_reducible apply ends_bind); case h => first | (simp only [stp, stq]; first | done | rfl) | rfl)
        | ((with_reducible apply ends_t); case h => first | rfl | (simp only [stp, stq]; done))
        | ((with_reducible apply ends_f); case h => first | rfl | (simp only [stp, stq]; done))
      exact stop _ rfl rfl
    have g4 : decide (p.off < 0) = false := decide_eq_false q4
    by_cases q5 : (64 : Int) - p.data.length < p.off
    · have g6 : decide ((64 : Int) - p.data.length < p.off) = true := decide_eq_true q5
      rw [if_pos (show badP p by unfold badP; rw [hr]; omega)]
      have stq := (And.intro (box_agg) (And.intro (aB) (And.intro (lB) (And.intro (hb) (And.intro (zl6) (And.intro (fa_pc) (And.intro (lp) (And.intro (ln) (And.intro (zn) (And.intro (g1) (And.intro (g2) (And.intro (g3) (And.intro (g4) (And.intro (g5) (And.intro (g6) (s2))))))))))))))))
      repeat first
        | ((with_reducible apply ends_bind); case h => first | (simp only [stp, stq]; first | done | rfl) | rfl)
        | ((with_reducible apply ends_t); case h => first | rfl | (simp only [stp, stq]; done))
        | ((with_reducible apply ends_f); case h => first | rfl | (simp only [stp, stq]; done))
      exact stop _ rfl rfl
    have g6 : decide ((64 : Int) - p.data.length < p.off) = false := decide_eq_false q5
    have hbad : ¬ badP p := by unfold badP; rw [hr]; omega
    rw [if_neg hbad]
    have hlen := layB_len b t p hb hbad
    obtain ⟨o, ho⟩ : ∃ o : Nat, p.off = o := ⟨p.off.toNat, by omega⟩
    rw [ho] at g4 g6 lp
    have hop : o + p.data.length ≤ 64 := by omega
    unfold layB at hlen ⊢
    rw [if_pos hk, ho, Int.toNat_natCast] at hlen ⊢
    have s3 := st_a hB (P := Try.prog) (bx := [u8l b, pt false p, u8l (zero 64), u8l (zero 64)]) (k := 3) (b := zero 64) (c := b) rfl zl6 hb
    simp only [List.set_cons_succ, List.set_cons_zero] at s3
    have stq := (And.intro (box_agg) (And.intro (aB) (And.intro (lB) (And.intro (hb) (And.intro (zl6) (And.intro (fa_pc) (And.intro (lp) (And.intro (ln) (And.intro (zn) (And.intro (z) (And.intro (g1) (And.intro (g2) (And.intro (g3) (And.intro (g4) (And.intro (g5) (And.intro (g6) (s3)))))))))))))))))
    repeat first
      | ((with_reducible apply ends_bind); case h => first | (simp only [stp, stq]; first | done | rfl) | rfl)
      | ((with_reducible apply ends_t); case h => first | rfl | (simp only [stp, stq]; done))
      | ((with_reducible apply ends_f); case h => first | rfl | (simp only [stp, stq]; done))
    refine ends_loop (fun d s => ∃ (j : Nat) (y49 y45 y15 y8 y7 y0 y1 y2 : AV) (d0 d1 d2 d3 : List AV), s = ⟨[(10, .v (.int .i64 j)), (9, .bp 3 0), (49, y49), (45, y45), (15, y15), (8, y8), (7, y7), (6, .bp 2 0), (4, .bp 1 0), (3, .bp 0 0), (0, y0), (1, y1), (2, y2)], [d0, d1, d2, d3]⟩ ∧ d0 = u8l b ∧ d1 = pt false p ∧ d2 = u8l (zero 64) ∧ d3 = u8l (lq o b (p.data.take j)) ∧ j + d = p.data.length) p.data.length (by omega) ⟨0, _, _, _, _, _, _, _, _, _, _, _, _, rfl, rfl, rfl, rfl, by rw [lq_nil], by omega⟩ ?_
    rintro d s ⟨j, y49, y45, y15, y8, y7, y0, y1, y2, d0, d1, d2, d3, rfl, rfl, rfl, rfl, rfl, hd⟩
    refine L_r15_Lay_0w1_lit ?_
    unfold B_r15_Lay_0w1
    by_cases hx : j < p.data.length
    · have h0 : decide ((j : Int) < (p.data.length : Int)) = true := decide_eq_true (by omega)
      have e4 : IntKind.i64.wrap ((o : Int) + (j : Int)) = ((o + j : Nat) : Int) := by rw [wrap64]; omega
      have i0 := idx_u8 t8 (P := Try.prog) p.data false .i64 j hx
      have l8 := fun bx => ld_ip1 bx (u8 p.data[j]) (u8l (p.data.drop (j + 1))) false
      have i1 := ix_a hB (P := Try.prog) 3 0 .i64 (o + j) (by omega)
      have s8 := st_b8 sz8 [u8l b, pt false p, u8l (zero 64), u8l (lq o b (p.data.take j))] 3 (0 + (o + j)) (lq o b (p.data.take j)) p.data[j] rfl (by rw [lq_lenj o b _ (by omega) j (by omega)]; omega)
      rw [Nat.zero_add] at s8 i1
      rw [lq_set o b p.data (by omega) j hx] at s8
      simp only [List.set_cons_succ, List.set_cons_zero] at s8
      have e3 : IntKind.i64.wrap ((j : Int) + 1) = ((j + 1 : Nat) : Int) := by rw [wrap64]; omega
      have stq := (And.intro (fa_pc) (And.intro (lp) (And.intro (ln) (And.intro (h0) (And.intro (e4) (And.intro (i0) (And.intro (l8) (And.intro (i1) (And.intro (s8) (e3))))))))))
      repeat first
        | ((with_reducible apply ends_bind); case h => first | (simp only [stp, stq]; first | done | rfl) | rfl)
        | ((with_reducible apply ends_t); case h => first | rfl | (simp only [stp, stq]; done))
        | ((with_reducible apply ends_f); case h => first | rfl | (simp only [stp, stq]; done))
      exact ends_some (.inl ⟨rfl, d - 1, by omega, j + 1, _, _, _, _, _, _, _, _, _, _, _, _, by first | rfl | (rw [← e3]; rfl), u8l_keep _ _, pt_keep _ _ _, u8l_keep _ _, u8l_keep _ _, by omega⟩)
    · have h0 : decide ((j : Int) < (p.data.length : Int)) = false := decide_eq_false (by omega)
      rw [List.take_of_length_le (show p.data.length ≤ j by omega)]
      have stq := (And.intro (fa_pc) (And.intro (lp) (And.intro (ln) (h0))))
      repeat first
        | ((with_reducible apply ends_bind); case h => first | (simp only [stp, stq]; first | done | rfl) | rfl)
        | ((with_reducible apply ends_t); case h => first | rfl | (simp only [stp, stq]; done))
        | ((with_reducible apply ends_f); case h => first | rfl | (simp only [stp, stq]; done))
      refine ends_some (.inr (.inl ⟨0, rfl, X_r15_Lay_0_0w1_lit ?_⟩))
      unfold X_r15_Lay_0_0w1
      have s4 := st_a hB (P := Try.prog) (bx := [u8l b, pt false p, u8l (zero 64), u8l (lq o b p.data)]) (k := 2) (b := zero 64) (c := lq o b p.data) rfl zl6 hlen
      simp only [List.set_cons_succ, List.set_cons_zero] at s4
      have stq := (And.intro (lB) (And.intro (hlen) (s4)))
      repeat first
        | ((with_reducible apply ends_bind); case h => first | (simp only [stp, stq]; first | done | rfl) | rfl)
        | ((with_reducible apply ends_t); case h => first | rfl | (simp only [stp, stq]; done))
        | ((with_reducible apply ends_f); case h => first | rfl | (simp only [stp, stq]; done))
      exact ends_some (retq_ct (ld_a hB (b := lq o b p.data) rfl hlen) (frz_agg _ _ _ _))
  · have zn : (p.kind != 0) = true := by simp [hk]
    have z : (p.kind == 0) = false := by simp [hk]
    have hr : rm p.kind = 54 := by unfold rm; rw [if_neg hk]
    have g5 : IntKind.i64.wrap ((54 : Int) - (p.data.length : Int)) = (54 : Int) - (p.data.length : Int) := by rw [wrap64]; omega
    by_cases q1 : p.kind < 0
    · have g1 : decide (p.kind < 0) = true := decide_eq_true q1
      rw [if_pos (show badP p from .inl q1)]
      have stq := (And.intro (box_agg) (And.intro (aB) (And.intro (lB) (And.intro (hb) (And.intro (zl6) (And.intro (fa_pc) (And.intro (lp) (And.intro (ln) (And.intro (zn) (And.intro (g1) (s2)))))))))))
      repeat first
        | ((with_reducible apply ends_bind); case h => first | (simp only [stp, stq]; first | done | rfl) | rfl)
        | ((with_reducible apply ends_t); case h => first | rfl | (simp only [stp, stq]; done))
        | ((with_reducible apply ends_f); case h => first | rfl | (simp only [stp, stq]; done))
      exact stop _ rfl rfl
    have g1 : decide (p.kind < 0) = false := decide_eq_false q1
    by_cases q2 : 6 < p.kind
    · have g2 : decide (6 < p.kind) = true := decide_eq_true q2
      rw [if_pos (show badP p from .inr (.inl q2))]
      have stq := (And.intro (box_agg) (And.intro (aB) (And.intro (lB) (And.intro (hb) (And.intro (zl6) (And.intro (fa_pc) (And.intro (lp) (And.intro (ln) (And.intro (zn) (And.intro (g1) (And.intro (g2) (s2))))))))))))
      repeat first
        | ((with_reducible apply ends_bind); case h => first | (simp only [stp, stq]; first | done | rfl) | rfl)
        | ((with_reducible apply ends_t); case h => first | rfl | (simp only [stp, stq]; done))
        | ((with_reducible apply ends_f); case h => first | rfl | (simp only [stp, stq]; done))
      exact stop _ rfl rfl
    have g2 : decide (6 < p.kind) = false := decide_eq_false q2
    by_cases q3 : (54 : Int) < p.data.length
    · have g3 : decide ((54 : Int) < p.data.length) = true := decide_eq_true q3
      rw [if_pos (show badP p by unfold badP; rw [hr]; omega)]
      have stq := (And.intro (box_agg) (And.intro (aB) (And.intro (lB) (And.intro (hb) (And.intro (zl6) (And.intro (fa_pc) (And.intro (lp) (And.intro (ln) (And.intro (zn) (And.intro (g1) (And.intro (g2) (And.intro (g3) (s2)))))))))))))
      repeat first
        | ((with_reducible apply ends_bind); case h => first | (simp only [stp, stq]; first | done | rfl) | rfl)
        | ((with_reducible apply ends_t); case h => first | rfl | (simp only [stp, stq]; done))
        | ((with_reducible apply ends_f); case h => first | rfl | (simp only [stp, stq]; done))
      exact stop _ rfl rfl
    have g3 : decide ((54 : Int) < p.data.length) = false := decide_eq_false q3
    by_cases q4 : p.off < 0
    · have g4 : decide (p.off < 0) = true := decide_eq_true q4
      rw [if_pos (show badP p by unfold badP; rw [hr]; omega)]
      have stq := (And.intro (box_agg) (And.intro (aB) (And.intro (lB) (And.intro (hb) (And.intro (zl6) (And.intro (fa_pc) (And.intro (lp) (And.intro (ln) (And.intro (zn) (And.intro (g1) (And.intro (g2) (And.intro (g3) (And.intro (g4) (s2))))))))))))))
      repeat first
        | ((with_reducible apply ends_bind); case h => first | (simp only [stp, stq]; first | done | rfl) | rfl)
        | ((with_reducible apply ends_t); case h => first | rfl | (simp only [stp, stq]; done))
        | ((with_reducible apply ends_f); case h => first | rfl | (simp only [stp, stq]; done))
      exact stop _ rfl rfl
    have g4 : decide (p.off < 0) = false := decide_eq_false q4
    by_cases q5 : (54 : Int) - p.data.length < p.off
    · have g6 : decide ((54 : Int) - p.data.length < p.off) = true := decide_eq_true q5
      rw [if_pos (show badP p by unfold badP; rw [hr]; omega)]
      have stq := (And.intro (box_agg) (And.intro (aB) (And.intro (lB) (And.intro (hb) (And.intro (zl6) (And.intro (fa_pc) (And.intro (lp) (And.intro (ln) (And.intro (zn) (And.intro (g1) (And.intro (g2) (And.intro (g3) (And.intro (g4) (And.intro (g5) (And.intro (g6) (s2))))))))))))))))
      repeat first
        | ((with_reducible apply ends_bind); case h => first | (simp only [stp, stq]; first | done | rfl) | rfl)
        | ((with_reducible apply ends_t); case h => first | rfl | (simp only [stp, stq]; done))
        | ((with_reducible apply ends_f); case h => first | rfl | (simp only [stp, stq]; done))
      exact stop _ rfl rfl
    have g6 : decide ((54 : Int) - p.data.length < p.off) = false := decide_eq_false q5
    have hbad : ¬ badP p := by unfold badP; rw [hr]; omega
    rw [if_neg hbad]
    have hm : mayK p.kind := by unfold mayK; omega
    have hlen := layB_len b t p hb hbad
    obtain ⟨o, ho⟩ : ∃ o : Nat, p.off = o := ⟨p.off.toNat, by omega⟩
    rw [ho] at g4 g6 lp
    have hop : o + p.data.length ≤ 54 := by omega
    obtain ⟨tt, e, hg⟩ := gotV_ld p.kind b
    have hq := ldV_len p.kind b hb
    have c2 := rLoad_ev (n := m + 1) (by omega) p.kind b hb hg hq
    unfold layB at hlen ⊢
    rw [if_neg hk, ho, Int.toNat_natCast] at hlen ⊢
    generalize ldV p.kind b = q at *
    have hl := lq_len o q p.data hq hop
    have c3 := rPut_ev (n := m + 1) (by omega) p.kind t ht (lq o q p.data) hl
    rw [show putV p.kind t (lq o q p.data) = _ from if_pos hm] at c3
    have s3 := st_a hL (P := Try.prog) (bx := [u8l b, pt false p, u8l (zero 64), u8l (zero 54)]) (k := 3) (b := zero 54) (c := q) rfl zl hq
    simp only [List.set_cons_succ, List.set_cons_zero] at s3
    have stq := (And.intro (box_agg) (And.intro (aB) (And.intro (aL) (And.intro (lB) (And.intro (hb) (And.intro (zl6) (And.intro (zl) (And.intro (fa_pc) (And.intro (lp) (And.intro (ln) (And.intro (zn) (And.intro (z) (And.intro (g1) (And.intro (g2) (And.intro (g3) (And.intro (g4) (And.intro (g5) (And.intro (g6) (And.intro (frz_agg) (And.intro (c2) (s3)))))))))))))))))))))
    repeat first
      | ((with_reducible apply ends_bind); case h => first | (simp only [stp, stq]; first | done | rfl) | rfl)
      | ((with_reducible apply ends_t); case h => first | rfl | (simp only [stp, stq]; done))
      | ((with_reducible apply ends_f); case h => first | rfl | (simp only [stp, stq]; done))
    refine ends_loop (fun d s => ∃ (j : Nat) (y49 y45 y8 y15 y8' y7 y0 y1 : AV) (d0 d1 d2 d3 : List AV), s = ⟨[(12, .v (.int .i64 j)), (11, .bp 3 0), (49, y49), (45, y45), (8, y8), (15, y15), (8, y8'), (7, y7), (6, .bp 2 0), (4, .bp 1 0), (3, .bp 0 0), (0, y0), (1, y1), (2, .v (.int .u32 t))], [d0, d1, d2, d3]⟩ ∧ d0 = u8l b ∧ d1 = pt false p ∧ d2 = u8l (zero 64) ∧ d3 = u8l (lq o q (p.data.take j)) ∧ j + d = p.data.length) p.data.length (by omega) ⟨0, _, _, _, _, _, _, _, _, _, _, _, _, rfl, rfl, rfl, rfl, by rw [lq_nil], by omega⟩ ?_
    rintro d s ⟨j, y49, y45, y8, y15, y8', y7, y0, y1, d0, d1, d2, d3, rfl, rfl, rfl, rfl, rfl, hd⟩
    refine L_r15_Lay_1_lit ?_
    unfold B_r15_Lay_1
    by_cases hx : j < p.data.length
    · have h0 : decide ((j : Int) < (p.data.length : Int)) = true := decide_eq_true (by omega)
      have e4 : IntKind.i64.wrap ((o : Int) + (j : Int)) = ((o + j : Nat) : Int) := by rw [wrap64]; omega
      have i0 := idx_u8 t8 (P := Try.prog) p.data false .i64 j hx
      have l8 := fun bx => ld_ip1 bx (u8 p.data[j]) (u8l (p.data.drop (j + 1))) false
      have i1 := ix_a hL (P := Try.prog) 3 0 .i64 (o + j) (by omega)
      have s8 := st_b8 sz8 [u8l b, pt false p, u8l (zero 64), u8l (lq o q (p.data.take j))] 3 (0 + (o + j)) (lq o q (p.data.take j)) p.data[j] rfl (by rw [lq_lenj o q _ (by omega) j (by omega)]; omega)
      rw [Nat.zero_add] at s8 i1
      rw [lq_set o q p.data (by omega) j hx] at s8
      simp only [List.set_cons_succ, List.set_cons_zero] at s8
      have e3 : IntKind.i64.wrap ((j : Int) + 1) = ((j + 1 : Nat) : Int) := by rw [wrap64]; omega
      have stq := (And.intro (fa_pc) (And.intro (lp) (And.intro (ln) (And.intro (h0) (And.intro (e4) (And.intro (i0) (And.intro (l8) (And.intro (i1) (And.intro (s8) (e3))))))))))
      repeat first
        | ((with_reducible apply ends_bind); case h => first | (simp only [stp, stq]; first | done | rfl) | rfl)
        | ((with_reducible apply ends_t); case h => first | rfl | (simp only [stp, stq]; done))
        | ((with_reducible apply ends_f); case h => first | rfl | (simp only [stp, stq]; done))
      exact ends_some (.inl ⟨rfl, d - 1, by omega, j + 1, _, _, _, _, _, _, _, _, _, _, _, _, by first | rfl | (rw [← e3]; rfl), u8l_keep _ _, pt_keep _ _ _, u8l_keep _ _, u8l_keep _ _, by omega⟩)
    · have h0 : decide ((j : Int) < (p.data.length : Int)) = false := decide_eq_false (by omega)
      rw [List.take_of_length_le (show p.data.length ≤ j by omega)]
      have stq := (And.intro (fa_pc) (And.intro (lp) (And.intro (ln) (h0))))
      repeat first
        | ((with_reducible apply ends_bind); case h => first | (simp only [stp, stq]; first | done | rfl) | rfl)
        | ((with_reducible apply ends_t); case h => first | rfl | (simp only [stp, stq]; done))
        | ((with_reducible apply ends_f); case h => first | rfl | (simp only [stp, stq]; done))
      refine ends_some (.inr (.inl ⟨2, rfl, X_r15_Lay_1_0_lit ?_⟩))
      unfold X_r15_Lay_1_0
      have s4 := st_a hB (P := Try.prog) (bx := [u8l b, pt false p, u8l (zero 64), u8l (lq o q p.data)]) (k := 2) (b := zero 64) (c := blk p.kind.toNat t (lq o q p.data)) rfl zl6 hlen
      simp only [List.set_cons_succ, List.set_cons_zero] at s4
      have stq := (And.intro (lL) (And.intro (fa_pc) (And.intro (lp) (And.intro (hl) (And.intro (frz_agg) (And.intro (c3) (s4)))))))
      repeat first
        | ((with_reducible apply ends_bind); case h => first | (simp only [stp, stq]; first | done | rfl) | rfl)
        | ((with_reducible apply ends_t); case h => first | rfl | (simp only [stp, stq]; done))
        | ((with_reducible apply ends_f); case h => first | rfl | (simp only [stp, stq]; done))
      exact ends_some (retq_ct (ld_a hB (b := blk p.kind.toNat t (lq o q p.data)) rfl hlen) (frz_agg _ _ _ _))
end Go.Sy
