/-
  Layer 12: what the reference lays; slots that there are not.
-/
import Derived.Test.YtmegbgmgpogfoaaPfDirR2
namespace Go.Sy
open Go.Proofs Go.Proofs.Ytmegbgmgpogfoaa Num

theorem ld_ip1 (bx : Bx) (x : AV) (r : List AV) (f : Bool) : loadA Try.prog 5 bx (.ip (x :: r) f) = some x := by kernel_rfl
def wpart (p : List UInt8) (o : Nat) (c : List UInt8) (i : Nat) : List UInt8 := p.take o ++ c.take i ++ p.drop (o + i)
theorem wpart_len (p : List UInt8) (o : Nat) (c : List UInt8) (i : Nat) (h : o + i ≤ p.length) (hi : i ≤ c.length) : (wpart p o c i).length = p.length := by
  unfold wpart
  rw [List.length_append, List.length_append, List.length_take, List.length_take, List.length_drop]
  omega
theorem wpart_set (p : List UInt8) (o : Nat) (c : List UInt8) (i : Nat) (h : o + i < p.length) (hi : i < c.length) : (wpart p o c i).set (o + i) c[i] = wpart p o c (i + 1) := by
  unfold wpart
  have h1 : (p.take o ++ c.take i).length = o + i := by
    rw [List.length_append, List.length_take, List.length_take]
    omega
  rw [List.set_append_right _ _ (by omega), h1, Nat.sub_self, List.drop_eq_getElem_cons h, List.set_cons_zero, List.take_succ_eq_append_getElem hi, show o + (i + 1) = o + i + 1 by omega]
  simp only [List.append_assoc, List.cons_append, List.nil_append]
theorem rput_ev {k : Nat} (hk : 30 ≤ k) (p : List UInt8) (hp : p.length = 54) (j : Nat) (hj : j < 4) (c : List UInt8) (hc : c.length = 13) (f : Bool) : cf (evFn cx0 ext0 k) 36 [.agg (u8l p), .v (.int .i64 j), byt f c] = some (.agg (u8l (wdL p j c))) := by
  obtain ⟨m, rfl⟩ : ∃ m, k = m + 2 := ⟨k - 2, by omega⟩
  have e1 : IntKind.i64.wrap (13 * (j : Int)) = ((13 * j : Nat) : Int) := by rw [wsm (by omega) (by omega)]; omega
  have aL := al_a hL (P := Try.prog)
  have zl : (zero 54).length = 54 := rfl
  have l0 := ld_a hL (P := Try.prog) (bx := [u8l p, u8l (zero 54)]) (k := 0) (b := p) rfl hp
  have s0 := st_a hL (P := Try.prog) (bx := [u8l p, u8l (zero 54), u8l (zero 54)]) (k := 2) (b := zero 54) (c := p) rfl zl hp
  simp only [List.set_cons_succ, List.set_cons_zero] at s0
  unfold cf
  rw [E_r12_put]
  refine ends_cf (P := Try.prog) ?_
  unfold F_r12_put
  have stq := (And.intro (box_agg) (And.intro (aL) (And.intro (l0) (s0))))
  repeat first
    | ((with_reducible apply ends_bind); case h => first | (simp only [stp, stq]; first | done | rfl) | rfl)
    | ((with_reducible apply ends_t); case h => first | rfl | (simp only [stp, stq]; done))
    | ((with_reducible apply ends_f); case h => first | rfl | (simp only [stp, stq]; done))
  refine ends_loop (fun d st => ∃ (i : Nat) (y0 : AV) (b0 b1 b2 : List AV), st = ⟨[(8, .v (.int .i64 i)), (7, .bp 2 0), (6, .bp 1 0), (3, .bp 0 0), (0, y0), (1, .v (.int .i64 j)), (2, byt f c)], [b0, b1, b2]⟩ ∧
    b1 = u8l (zero 54) ∧ b2 = u8l (wpart p (13 * j) c i) ∧ i + d = 13) 13 (by omega) ⟨0, _, _, _, _, rfl, rfl, by unfold wpart; simp, by omega⟩ ?_
  rintro d st ⟨i, y0, b0, b1, b2, rfl, rfl, rfl, hd⟩
  refine L_r12_put_0_lit ?_
  unfold B_r12_put_0
  rcases d with _ | d
  · have g2 : decide ((i : Int) < 13) = false := decide_eq_false (by omega)
    have stq := (g2)
    repeat first
      | ((with_reducible apply ends_bind); case h => first | (simp only [stp, stq]; first | done | rfl) | rfl)
      | ((with_reducible apply ends_t); case h => first | rfl | (simp only [stp, stq]; done))
      | ((with_reducible apply ends_f); case h => first | rfl | (simp only [stp, stq]; done))
    refine ends_some (.inr (.inl ⟨0, rfl, X_r12_put_0_0_lit ?_⟩))
    unfold X_r12_put_0_0
    obtain rfl : i = 13 := by omega
    have hw := wdL_len p hp j hj c hc
    rw [show wpart p (13 * j) c 13 = wdL p j c by unfold wpart wdL; rw [show c.take 13 = c from List.take_of_length_le (by omega)]]
    have l2 := ld_a hL (P := Try.prog) (bx := [b0, u8l (zero 54), u8l (wdL p j c)]) (k := 2) (b := wdL p j c) rfl hw
    have s2 := st_a hL (P := Try.prog) (bx := [b0, u8l (zero 54), u8l (wdL p j c)]) (k := 1) (b := zero 54) (c := wdL p j c) rfl zl hw
    simp only [List.set_cons_succ, List.set_cons_zero] at s2
    have stq := (And.intro (l2) (s2))
    repeat first
      | ((with_reducible apply ends_bind); case h => first | (simp only [stp, stq]; first | done | rfl) | rfl)
      | ((with_reducible apply ends_t); case h => first | rfl | (simp only [stp, stq]; done))
      | ((with_reducible apply ends_f); case h => first | rfl | (simp only [stp, stq]; done))
    refine ends_some ⟨.inl rfl, [.agg (u8l (wdL p j c))], ?_, ?_⟩
    · have := ld_a hL (P := Try.prog) (bx := [b0, u8l (wdL p j c), u8l (wdL p j c)]) (k := 1) (b := wdL p j c) rfl hw
      show (loadA Try.prog 37 [b0, u8l (wdL p j c), u8l (wdL p j c)] (.bp 1 0)).bind _ = _
      rw [this]
      rfl
    · exact frz_agg _ _ _ _
  · have g2 : decide ((i : Int) < 13) = true := decide_eq_true (by omega)
    have e2 : IntKind.i64.wrap (((13 * j : Nat) : Int) + (i : Int)) = ((13 * j + i : Nat) : Int) := by rw [wsm (by omega) (by omega)]; omega
    have e3 : IntKind.i64.wrap ((i : Int) + 1) = ((i + 1 : Nat) : Int) := by rw [wrap64]; omega
    have hi : i < c.length := by omega
    have x1 := idx_u8 t8 (P := Try.prog) c f .i64 i hi
    have l1 := fun bx => ld_ip1 bx (u8 c[i]) (u8l (c.drop (i + 1))) f
    have x2 := ix_a hL (P := Try.prog) 2 0 .i64 (13 * j + i) (by omega)
    rw [Nat.zero_add] at x2
    have hwl := wpart_len p (13 * j) c i (by omega) (by omega)
    have s5 := st_b8 sz8 [b0, u8l (zero 54), u8l (wpart p (13 * j) c i)] 2 (13 * j + i) (wpart p (13 * j) c i) (c[i]) rfl (by omega)
    rw [wpart_set p (13 * j) c i (by omega) hi] at s5
    simp only [List.set_cons_succ, List.set_cons_zero] at s5
    have stq := (And.intro (g2) (And.intro (e1) (And.intro (e2) (And.intro (x1) (And.intro (l1) (And.intro (x2) (And.intro (s5) (e3))))))))
    repeat first
      | ((with_reducible apply ends_bind); case h => first | (simp only [stp, stq]; first | done | rfl) | rfl)
      | ((with_reducible apply ends_t); case h => first | rfl | (simp only [stp, stq]; done))
      | ((with_reducible apply ends_f); case h => first | rfl | (simp only [stp, stq]; done))
    exact ends_some (.inl ⟨rfl, d, by omega, i + 1, _, _, _, _, by first | rfl | (rw [← e3]; rfl), u8l_keep _ _, u8l_keep _ _, by omega⟩)
def wthV (p : List UInt8) (j : Int) (n : Int) (l : List UInt8) : AV :=
  if 0 ≤ j ∧ j < 4 then (if okE n l = true then .tup [.agg (u8l (wdL p j.toNat (eb n.toNat l))), .v (.int .i64 0)] else .tup [.agg (u8l (zero 54)), .v (.int .i64 (putE n))]) else .tup [.agg (u8l (zero 54)), .v (.int .i64 2)]
def wthoV (p : List UInt8) (j : Int) : AV := if 0 ≤ j ∧ j < 4 then .tup [.agg (u8l (wdL p j.toNat (zero 13))), .v (.int .i64 0)] else .tup [.agg (u8l (zero 54)), .v (.int .i64 2)]
def atA (p : List UInt8) (j : Int) : AV := if 0 ≤ j ∧ j < 4 then atV (slB p j.toNat) else badAt
theorem okE_len {n : Int} {l : List UInt8} (h : okE n l = true) : l.length ≤ 10 := by
  unfold okE at h
  simp only [Bool.and_eq_true] at h
  exact (name_len h.2).2
theorem rWith_ev {k : Nat} (hk : 70 ≤ k) (p : List UInt8) (hp : p.length = 54) (j : Int) (n : Int) (s : ByteArray) : cf (evFn cx0 ext0 k) 25 [.agg (u8l p), .v (.int .i64 j), .agg (ent n s)] = some (wthV p j n s.data.toList) := by
  obtain ⟨m, rfl⟩ : ∃ m, k = m + 2 := ⟨k - 2, by omega⟩
  have aL := al_a hL (P := Try.prog)
  have zL := z_a hL (P := Try.prog)
  have zl : (zero 54).length = 54 := rfl
  have s2 := st_a hL (P := Try.prog) (bx := [u8l p, ent n s, u8l (zero 54)]) (k := 2) (b := zero 54) (c := zero 54) rfl zl zl
  simp only [List.set_cons_succ, List.set_cons_zero] at s2
  unfold cf
  rw [E_r12_With]
  refine ends_cf (P := Try.prog) ?_
  unfold F_r12_With wthV
  by_cases h0 : j < 0
  · have g0 : decide (j < 0) = true := decide_eq_true h0
    rw [if_neg (by omega)]
    have stq := (And.intro (box_agg) (And.intro (box_e) (And.intro (aL) (And.intro (g0) (And.intro (zL) (s2))))))
    repeat first
      | ((with_reducible apply ends_bind); case h => first | (simp only [stp, stq]; first | done | rfl) | rfl)
      | ((with_reducible apply ends_t); case h => first | rfl | (simp only [stp, stq]; done))
      | ((with_reducible apply ends_f); case h => first | rfl | (simp only [stp, stq]; done))
    exact ends_some (retq_ct (ld_a hL (b := zero 54) rfl zl) (frz_agg _ _ _ _))
  have g0 : decide (j < 0) = false := decide_eq_false h0
  by_cases h3 : j > 3
  · have g1 : decide (j > 3) = true := decide_eq_true h3
    rw [if_neg (by omega)]
    have stq := (And.intro (box_agg) (And.intro (box_e) (And.intro (aL) (And.intro (g0) (And.intro (g1) (And.intro (zL) (s2)))))))
    repeat first
      | ((with_reducible apply ends_bind); case h => first | (simp only [stp, stq]; first | done | rfl) | rfl)
      | ((with_reducible apply ends_t); case h => first | rfl | (simp only [stp, stq]; done))
      | ((with_reducible apply ends_f); case h => first | rfl | (simp only [stp, stq]; done))
    exact ends_some (retq_ct (ld_a hL (b := zero 54) rfl zl) (frz_agg _ _ _ _))
  have g1 : decide (j > 3) = false := decide_eq_false h3
  rw [if_pos (by omega)]
  obtain ⟨j, rfl⟩ : ∃ x : Nat, j = x := ⟨j.toNat, by omega⟩
  rw [Int.toNat_natCast]
  have c1 := rPut_ev (k := m + 1) (by omega) n s
  have le1 := fun r => (ld_e (u8l p) [] [] [] [] n s r).2.1
  cases ho : okE n s.data.toList
  · rw [if_neg (by simp)]
    have hpv : rputV n s.data.toList = .tup [byt false (zero 13), .v (.int .i64 (putE n))] := by unfold rputV; rw [if_neg (by rw [ho]; simp)]
    rw [hpv] at c1
    have g3 := putE_ne n
    have stq := (And.intro (box_agg) (And.intro (box_e) (And.intro (aL) (And.intro (g0) (And.intro (g1) (And.intro (le1) (And.intro (frz_e) (And.intro (c1) (And.intro (g3) (And.intro (zL) (s2)))))))))))
    repeat first
      | ((with_reducible apply ends_bind); case h => first | (simp only [stp, stq]; first | done | rfl) | rfl)
      | ((with_reducible apply ends_t); case h => first | rfl | (simp only [stp, stq]; done))
      | ((with_reducible apply ends_f); case h => first | rfl | (simp only [stp, stq]; done))
    exact ends_some (retq_ct (ld_a hL (b := zero 54) rfl zl) (frz_agg _ _ _ _))
  · rw [if_pos rfl]
    have hpv : rputV n s.data.toList = .tup [byt false (eb n.toNat s.data.toList), .v (.int .i64 0)] := by unfold rputV; rw [if_pos ho]
    rw [hpv] at c1
    have g3 : ((0 : Int) != 0) = false := rfl
    have hel := eb_len n.toNat s.data.toList (okE_len ho)
    obtain ⟨c, hcd⟩ : ∃ c, c = eb n.toNat s.data.toList := ⟨_, rfl⟩
    rw [← hcd] at c1 hel ⊢
    have lp := fun r => ld_a hL (P := Try.prog) (bx := u8l p :: r) (k := 0) (b := p) rfl hp
    have c2 := rput_ev (k := m + 1) (by omega) p hp j (by omega) c hel false
    have fb : ∀ bx, frz bx true 6 (byt false c) = byt false c := fun _ => rfl
    have hw := wdL_len p hp j (by omega) c hel
    have s3 := st_a hL (P := Try.prog) (bx := [u8l p, ent n s, u8l (zero 54)]) (k := 2) (b := zero 54) (c := wdL p j c) rfl zl hw
    simp only [List.set_cons_succ, List.set_cons_zero] at s3
    have stq := (And.intro (box_agg) (And.intro (box_e) (And.intro (aL) (And.intro (g0) (And.intro (g1) (And.intro (le1) (And.intro (frz_e) (And.intro (c1) (And.intro (g3) (And.intro (lp) (And.intro (frz_agg) (And.intro (fb) (And.intro (c2) (s3))))))))))))))
    repeat first
      | ((with_reducible apply ends_bind); case h => first | (simp only [stp, stq]; first | done | rfl) | rfl)
      | ((with_reducible apply ends_t); case h => first | rfl | (simp only [stp, stq]; done))
      | ((with_reducible apply ends_f); case h => first | rfl | (simp only [stp, stq]; done))
    exact ends_some (retq_ct (ld_a hL (b := wdL p j c) rfl hw) (frz_agg _ _ _ _))
theorem rWithout_ev {k : Nat} (hk : 70 ≤ k) (p : List UInt8) (hp : p.length = 54) (j : Int) : cf (evFn cx0 ext0 k) 26 [.agg (u8l p), .v (.int .i64 j)] = some (wthoV p j) := by
  obtain ⟨m, rfl⟩ : ∃ m, k = m + 2 := ⟨k - 2, by omega⟩
  have aL := al_a hL (P := Try.prog)
  have zL := z_a hL (P := Try.prog)
  have zl : (zero 54).length = 54 := rfl
  have s2 := st_a hL (P := Try.prog) (bx := [u8l p, u8l (zero 54)]) (k := 1) (b := zero 54) (c := zero 54) rfl zl zl
  simp only [List.set_cons_succ, List.set_cons_zero] at s2
  unfold cf
  rw [E_r12_Without]
  refine ends_cf (P := Try.prog) ?_
  unfold F_r12_Without wthoV
  by_cases h0 : j < 0
  · have g0 : decide (j < 0) = true := decide_eq_true h0
    rw [if_neg (by omega)]
    have stq := (And.intro (box_agg) (And.intro (aL) (And.intro (g0) (And.intro (zL) (s2)))))
    repeat first
      | ((with_reducible apply ends_bind); case h => first | (simp only [stp, stq]; first | done | rfl) | rfl)
      | ((with_reducible apply ends_t); case h => first | rfl | (simp only [stp, stq]; done))
      | ((with_reducible apply ends_f); case h => first | rfl | (simp only [stp, stq]; done))
    exact ends_some (retq_ct (ld_a hL (b := zero 54) rfl zl) (frz_agg _ _ _ _))
  have g0 : decide (j < 0) = false := decide_eq_false h0
  by_cases h3 : j > 3
  · have g1 : decide (j > 3) = true := decide_eq_true h3
    rw [if_neg (by omega)]
    have stq := (And.intro (box_agg) (And.intro (aL) (And.intro (g0) (And.intro (g1) (And.intro (zL) (s2))))))
    repeat first
      | ((with_reducible apply ends_bind); case h => first | (simp only [stp, stq]; first | done | rfl) | rfl)
      | ((with_reducible apply ends_t); case h => first | rfl | (simp only [stp, stq]; done))
      | ((with_reducible apply ends_f); case h => first | rfl | (simp only [stp, stq]; done))
    exact ends_some (retq_ct (ld_a hL (b := zero 54) rfl zl) (frz_agg _ _ _ _))
  have g1 : decide (j > 3) = false := decide_eq_false h3
  rw [if_pos (by omega)]
  obtain ⟨j, rfl⟩ : ∃ x : Nat, j = x := ⟨j.toNat, by omega⟩
  rw [Int.toNat_natCast]
  have lp := fun r => ld_a hL (P := Try.prog) (bx := u8l p :: r) (k := 0) (b := p) rfl hp
  have c2 := rput_ev (k := m + 1) (by omega) p hp j (by omega) (zero 13) rfl true
  have fb : frz [u8l p, u8l (zero 54), u8l (zero 13)] true 6 (.bsl 2 0 13 1) = byt true (zero 13) := frz_b8 true (b := zero 13) (d := 4) rfl rfl
  have hw := wdL_len p hp j (by omega) (zero 13) rfl
  have s3 := st_a hL (P := Try.prog) (bx := [u8l p, u8l (zero 54), u8l (zero 13)]) (k := 1) (b := zero 54) (c := wdL p j (zero 13)) rfl zl hw
  simp only [List.set_cons_succ, List.set_cons_zero] at s3
  have stq := (And.intro (box_agg) (And.intro (aL) (And.intro (g0) (And.intro (g1) (And.intro (mk13) (And.intro (lp) (And.intro (frz_agg) (And.intro (fb) (And.intro (c2) (s3))))))))))
  repeat first
    | ((with_reducible apply ends_bind); case h => first | (simp only [stp, stq]; first | done | rfl) | rfl)
    | ((with_reducible apply ends_t); case h => first | rfl | (simp only [stp, stq]; done))
    | ((with_reducible apply ends_f); case h => first | rfl | (simp only [stp, stq]; done))
  exact ends_some (retq_ct (ld_a hL (b := wdL p j (zero 13)) rfl hw) (frz_agg _ _ _ _))
theorem rAtA_ev {k : Nat} (hk : 60 ≤ k) (p : List UInt8) (hp : p.length = 54) (j : Int) : cf (evFn cx0 ext0 k) 24 [.agg (u8l p), .v (.int .i64 j)] = some (atA p j) := by
  unfold atA
  by_cases h : 0 ≤ j ∧ j < 4
  · rw [if_pos h]
    obtain ⟨j, rfl⟩ : ∃ x : Nat, j = x := ⟨j.toNat, by omega⟩
    exact rAt_ev hk p hp j (by omega)
  · rw [if_neg h]
    exact rAt_no (by omega) p hp j (by omega)
/-! ## the program, where there is no slot -/
theorem slot_no (m : Nat) (j : Int) (hj : ¬ (0 ≤ j ∧ j < 4)) : cf (evFn cx0 ext0 (m + 1)) 30 [.v (.int .i64 j)] = some (.v (.bool false)) := by
  unfold cf
  rw [E_dirent_slot]
  refine ends_cf (P := Try.prog) ?_
  unfold F_dirent_slot
  by_cases h0 : 0 ≤ j
  · have g0 : decide (j ≥ 0) = true := decide_eq_true h0
    have g1 : decide (j < 4) = false := decide_eq_false (by omega)
    have stq := (And.intro (g0) (g1))
    repeat first
      | ((with_reducible apply ends_bind); case h => first | (simp only [stp, stq]; first | done | rfl) | rfl)
      | ((with_reducible apply ends_t); case h => first | rfl | (simp only [stp, stq]; done))
      | ((with_reducible apply ends_f); case h => first | rfl | (simp only [stp, stq]; done))
    exact ends_some ⟨.inl rfl, _, rfl, rfl⟩
  · have g0 : decide (j ≥ 0) = false := decide_eq_false h0
    have stq := (g0)
    repeat first
      | ((with_reducible apply ends_bind); case h => first | (simp only [stp, stq]; first | done | rfl) | rfl)
      | ((with_reducible apply ends_t); case h => first | rfl | (simp only [stp, stq]; done))
      | ((with_reducible apply ends_f); case h => first | rfl | (simp only [stp, stq]; done))
    exact ends_some ⟨.inl rfl, _, rfl, rfl⟩
theorem AtA_ev {k : Nat} (hk : 60 ≤ k) (p : List UInt8) (hp : p.length = 54) (j : Int) : cf (evFn cx0 ext0 k) 17 [.agg (u8l p), .v (.int .i64 j)] = some (atA p j) := by
  unfold atA
  by_cases h : 0 ≤ j ∧ j < 4
  · rw [if_pos h]
    obtain ⟨j, rfl⟩ : ∃ x : Nat, j = x := ⟨j.toNat, by omega⟩
    exact At_ev (by omega) p hp j (by omega)
  · rw [if_neg h]
    obtain ⟨m, rfl⟩ : ∃ m, k = m + 2 := ⟨k - 2, by omega⟩
    have c1 : cf (evFn cx0 ext0 (m + 1)) 30 [.v (.int .i64 j)] = _ := slot_no m j h
    have al := al_e
    have zE0 : zE = ent 0 ⟨#[]⟩ := rfl
    simp only [zE0] at al
    have ze := z_e
    rw [zE0] at ze
    have se1 := fun n n' s s' r => (st_e (u8l p) [] [] [] [] n n' s s' r).1
    unfold cf
    rw [E_dirent_At]
    refine ends_cf (P := Try.prog) ?_
    unfold F_dirent_At badAt
    have stq := (And.intro (box_agg) (And.intro (al) (And.intro (c1) (And.intro (n_ft) (And.intro (ze) (se1))))))
    repeat first
      | ((with_reducible apply ends_bind); case h => first | (simp only [stp, stq]; first | done | rfl) | rfl)
      | ((with_reducible apply ends_t); case h => first | rfl | (simp only [stp, stq]; done))
      | ((with_reducible apply ends_f); case h => first | rfl | (simp only [stp, stq]; done))
    exact ends_some (retq_ctt (ld_e (u8l p) [] [] [] [] _ _ _).2.1 (frz_e5 _ _ _ _))
theorem WithA_ev {k : Nat} (hk : 60 ≤ k) (p : List UInt8) (hp : p.length = 54) (j : Int) (n : Int) (s : ByteArray) : cf (evFn cx0 ext0 k) 15 [.agg (u8l p), .v (.int .i64 j), .agg (ent n s)] = some (wthV p j n s.data.toList) := by
  unfold wthV
  by_cases h : 0 ≤ j ∧ j < 4
  · rw [if_pos h]
    obtain ⟨j, rfl⟩ : ∃ x : Nat, j = x := ⟨j.toNat, by omega⟩
    exact With_ev (by omega) p hp j (by omega) n s
  · rw [if_neg h]
    obtain ⟨m, rfl⟩ : ∃ m, k = m + 2 := ⟨k - 2, by omega⟩
    have c1 : cf (evFn cx0 ext0 (m + 1)) 30 [.v (.int .i64 j)] = _ := slot_no m j h
    have aL := al_a hL (P := Try.prog)
    have zL := z_a hL (P := Try.prog)
    have zl : (zero 54).length = 54 := rfl
    have s2 := st_a hL (P := Try.prog) (bx := [u8l p, ent n s, u8l (zero 54)]) (k := 2) (b := zero 54) (c := zero 54) rfl zl zl
    simp only [List.set_cons_succ, List.set_cons_zero] at s2
    unfold cf
    rw [E_dirent_With]
    refine ends_cf (P := Try.prog) ?_
    unfold F_dirent_With
    have stq := (And.intro (box_agg) (And.intro (box_e) (And.intro (aL) (And.intro (c1) (And.intro (n_ft) (And.intro (zL) (s2)))))))
    repeat first
      | ((with_reducible apply ends_bind); case h => first | (simp only [stp, stq]; first | done | rfl) | rfl)
      | ((with_reducible apply ends_t); case h => first | rfl | (simp only [stp, stq]; done))
      | ((with_reducible apply ends_f); case h => first | rfl | (simp only [stp, stq]; done))
    exact ends_some (retq_ct (ld_a hL (b := zero 54) rfl zl) (frz_agg _ _ _ _))
theorem WithoutA_ev {k : Nat} (hk : 60 ≤ k) (p : List UInt8) (hp : p.length = 54) (j : Int) : cf (evFn cx0 ext0 k) 16 [.agg (u8l p), .v (.int .i64 j)] = some (wthoV p j) := by
  unfold wthoV
  by_cases h : 0 ≤ j ∧ j < 4
  · rw [if_pos h]
    obtain ⟨j, rfl⟩ : ∃ x : Nat, j = x := ⟨j.toNat, by omega⟩
    exact Without_ev (by omega) p hp j (by omega)
  · rw [if_neg h]
    obtain ⟨m, rfl⟩ : ∃ m, k = m + 2 := ⟨k - 2, by omega⟩
    have c1 : cf (evFn cx0 ext0 (m + 1)) 30 [.v (.int .i64 j)] = _ := slot_no m j h
    have aL := al_a hL (P := Try.prog)
    have zL := z_a hL (P := Try.prog)
    have zl : (zero 54).length = 54 := rfl
    have s2 := st_a hL (P := Try.prog) (bx := [u8l p, u8l (zero 54)]) (k := 1) (b := zero 54) (c := zero 54) rfl zl zl
    simp only [List.set_cons_succ, List.set_cons_zero] at s2
    unfold cf
    rw [E_dirent_Without]
    refine ends_cf (P := Try.prog) ?_
    unfold F_dirent_Without
    have stq := (And.intro (box_agg) (And.intro (aL) (And.intro (c1) (And.intro (n_ft) (And.intro (zL) (s2))))))
    repeat first
      | ((with_reducible apply ends_bind); case h => first | (simp only [stp, stq]; first | done | rfl) | rfl)
      | ((with_reducible apply ends_t); case h => first | rfl | (simp only [stp, stq]; done))
      | ((with_reducible apply ends_f); case h => first | rfl | (simp only [stp, stq]; done))
    exact ends_some (retq_ct (ld_a hL (b := zero 54) rfl zl) (frz_agg _ _ _ _))
theorem Offset_ev (m : Nat) (j : Int) : cf (evFn cx0 ext0 (m + 2)) 27 [.v (.int .i64 j)] = some (if 0 ≤ j ∧ j < 4 then .tup [.v (.int .i64 (13 * j)), .v (.int .i64 0)] else .tup [.v (.int .i64 0), .v (.int .i64 2)]) := by
  unfold cf
  rw [E_dirent_Offset]
  refine ends_cf (P := Try.prog) ?_
  unfold F_dirent_Offset
  by_cases h : 0 ≤ j ∧ j < 4
  · rw [if_pos h]
    obtain ⟨j, rfl⟩ : ∃ x : Nat, j = x := ⟨j.toNat, by omega⟩
    have c1 : cf (evFn cx0 ext0 (m + 1)) 30 [.v (.int .i64 j)] = _ := slot_ev m j (by omega)
    have e1 : IntKind.i64.wrap (13 * (j : Int)) = 13 * (j : Int) := wsm (by omega) (by omega)
    have stq := (And.intro (c1) (And.intro (n_tf) (e1)))
    repeat first
      | ((with_reducible apply ends_bind); case h => first | (simp only [stp, stq]; first | done | rfl) | rfl)
      | ((with_reducible apply ends_t); case h => first | rfl | (simp only [stp, stq]; done))
      | ((with_reducible apply ends_f); case h => first | rfl | (simp only [stp, stq]; done))
    exact ends_some ⟨.inl rfl, _, rfl, rfl⟩
  · rw [if_neg h]
    have c1 : cf (evFn cx0 ext0 (m + 1)) 30 [.v (.int .i64 j)] = _ := slot_no m j h
    have stq := (And.intro (c1) (n_ft))
    repeat first
      | ((with_reducible apply ends_bind); case h => first | (simp only [stp, stq]; first | done | rfl) | rfl)
      | ((with_reducible apply ends_t); case h => first | rfl | (simp only [stp, stq]; done))
      | ((with_reducible apply ends_f); case h => first | rfl | (simp only [stp, stq]; done))
    exact ends_some ⟨.inl rfl, _, rfl, rfl⟩
end Go.Sy
