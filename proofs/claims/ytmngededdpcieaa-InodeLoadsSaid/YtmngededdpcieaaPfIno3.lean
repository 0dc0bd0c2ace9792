/-
  Layer 10: inodes in loads, and their fields.
-/
import Derived.Test.YtmngededdpcieaaPfIno2
import Derived.Test.YtmngededdpcieaaSyArr
namespace Go.Sy
open Go.Proofs Num

theorem hL : arr8 Try.prog 47 54 = true := by kernel_rfl
theorem h18 : arr8 Try.prog 40 18 = true := by kernel_rfl
abbrev zero (n : Nat) : List UInt8 := List.replicate n 0
theorem n_tf : (!true) = false := rfl
theorem n_ft : (!false) = true := rfl
theorem wsm {x : Int} (h1 : -4611686018427387904 ≤ x) (h2 : x ≤ 4611686018427387904) : IntKind.i64.wrap x = x := by rw [wrap64]; omega
theorem retq_ct {P : Program} {a t u : Nat} {env : Env} {bx : Bx} {x x' : AV} (hl : loadA P t bx (get env a) = some x) (hx : frz bx false 5 x = x') : RetQ P [.cell a t, .tmp u] (.tup [x', frz bx false 5 (get env u)]) .ret ⟨env, bx⟩ := by
  refine ⟨.inl rfl, [x, get env u], ?_, ?_⟩
  · simp only [resL, hl, Option.bind_some, Option.map_some]
  · show AV.tup [frz bx false 5 x, frz bx false 5 (get env u)] = _
    rw [hx]

theorem slot_ev (m : Nat) (k : Int) : cf (evFn cx0 ext0 (m + 1)) 25 [.v (.int .i64 k)] = some (.v (.bool (decide (0 ≤ k ∧ k < 3)))) := by
  unfold cf
  rw [E_inode_slot]
  refine ends_cf (P := Try.prog) ?_
  unfold F_inode_slot
  by_cases h0 : 0 ≤ k
  · have g0 : decide (0 ≤ k) = true := decide_eq_true h0
    rw [show decide (0 ≤ k ∧ k < 3) = decide (k < 3) by simp [h0]]
    have stq := (g0)
    repeat first
      | ((with_reducible apply ends_bind); case h => first | (simp only [stp, stq]; first | done | rfl) | rfl)
      | ((with_reducible apply ends_t); case h => first | rfl | (simp only [stp, stq]; done))
      | ((with_reducible apply ends_f); case h => first | rfl | (simp only [stp, stq]; done))
    exact ends_some ⟨.inl rfl, _, rfl, rfl⟩
  · have g0 : decide (0 ≤ k) = false := decide_eq_false h0
    rw [show decide (0 ≤ k ∧ k < 3) = false by simp [h0]]
    have stq := (g0)
    repeat first
      | ((with_reducible apply ends_bind); case h => first | (simp only [stp, stq]; first | done | rfl) | rfl)
      | ((with_reducible apply ends_t); case h => first | rfl | (simp only [stp, stq]; done))
      | ((with_reducible apply ends_f); case h => first | rfl | (simp only [stp, stq]; done))
    exact ends_some ⟨.inl rfl, _, rfl, rfl⟩

/-- a field's place, its length, is there one -/
def fld (f : Int) : Int × Int × Bool := if f = 0 then (0, 18, true) else if f = 1 then (1, 1, true) else if f = 2 then (2, 4, true) else if 3 ≤ f ∧ f ≤ 8 then (6 + 2 * (f - 3), 2, true) else if f = 9 then (2, 16, true) else (0, 0, false)
def fldV (w : Int × Int × Bool) : AV := .tup [.v (.int .i64 w.1), .v (.int .i64 w.2.1), .v (.bool w.2.2)]
theorem field_ev (m : Nat) (f : Int) : cf (evFn cx0 ext0 (m + 1)) 24 [.v (.int .i64 f)] = some (fldV (fld f)) := by
  unfold cf
  rw [E_inode_field]
  refine ends_cf (P := Try.prog) ?_
  unfold F_inode_field
  unfold fld
  by_cases h0 : f = 0
  · have g0 : (f == 0) = true := by simp [h0]
    rw [if_pos h0]
    have stq := (g0)
    repeat first
      | ((with_reducible apply ends_bind); case h => first | (simp only [stp, stq]; first | done | rfl) | rfl)
      | ((with_reducible apply ends_t); case h => first | rfl | (simp only [stp, stq]; done))
      | ((with_reducible apply ends_f); case h => first | rfl | (simp only [stp, stq]; done))
    exact ends_some ⟨.inl rfl, _, rfl, rfl⟩
  have g0 : (f == 0) = false := by simp [h0]
  rw [if_neg h0]
  by_cases h1 : f = 1
  · have g1 : (f == 1) = true := by simp [h1]
    rw [if_pos h1]
    have stq := (And.intro (g0) (g1))
    repeat first
      | ((with_reducible apply ends_bind); case h => first | (simp only [stp, stq]; first | done | rfl) | rfl)
      | ((with_reducible apply ends_t); case h => first | rfl | (simp only [stp, stq]; done))
      | ((with_reducible apply ends_f); case h => first | rfl | (simp only [stp, stq]; done))
    exact ends_some ⟨.inl rfl, _, rfl, rfl⟩
  have g1 : (f == 1) = false := by simp [h1]
  rw [if_neg h1]
  by_cases h2 : f = 2
  · have g2 : (f == 2) = true := by simp [h2]
    rw [if_pos h2]
    have stq := (And.intro (g0) (And.intro (g1) (g2)))
    repeat first
      | ((with_reducible apply ends_bind); case h => first | (simp only [stp, stq]; first | done | rfl) | rfl)
      | ((with_reducible apply ends_t); case h => first | rfl | (simp only [stp, stq]; done))
      | ((with_reducible apply ends_f); case h => first | rfl | (simp only [stp, stq]; done))
    exact ends_some ⟨.inl rfl, _, rfl, rfl⟩
  have g2 : (f == 2) = false := by simp [h2]
  rw [if_neg h2]
  by_cases h3 : 3 ≤ f
  · have g3 : decide (3 ≤ f) = true := decide_eq_true h3
    by_cases h4 : f ≤ 8
    · have g4 : decide (f ≤ 8) = true := decide_eq_true h4
      have e1 := wsm (x := f - 3) (by omega) (by omega)
      have e2 := wsm (x := 2 * (f - 3)) (by omega) (by omega)
      have e3 := wsm (x := 6 + 2 * (f - 3)) (by omega) (by omega)
      rw [if_pos ⟨h3, h4⟩]
      have stq := (And.intro (g0) (And.intro (g1) (And.intro (g2) (And.intro (g3) (And.intro (g4) (And.intro (e1) (And.intro (e2) (e3))))))))
      repeat first
        | ((with_reducible apply ends_bind); case h => first | (simp only [stp, stq]; first | done | rfl) | rfl)
        | ((with_reducible apply ends_t); case h => first | rfl | (simp only [stp, stq]; done))
        | ((with_reducible apply ends_f); case h => first | rfl | (simp only [stp, stq]; done))
      exact ends_some ⟨.inl rfl, _, rfl, rfl⟩
    · have g4 : decide (f ≤ 8) = false := decide_eq_false h4
      rw [if_neg (by omega)]
      by_cases h9 : f = 9
      · have g9 : (f == 9) = true := by simp [h9]
        rw [if_pos h9]
        have stq := (And.intro (g0) (And.intro (g1) (And.intro (g2) (And.intro (g3) (And.intro (g4) (g9))))))
        repeat first
          | ((with_reducible apply ends_bind); case h => first | (simp only [stp, stq]; first | done | rfl) | rfl)
          | ((with_reducible apply ends_t); case h => first | rfl | (simp only [stp, stq]; done))
          | ((with_reducible apply ends_f); case h => first | rfl | (simp only [stp, stq]; done))
        exact ends_some ⟨.inl rfl, _, rfl, rfl⟩
      · have g9 : (f == 9) = false := by simp [h9]
        rw [if_neg h9]
        have stq := (And.intro (g0) (And.intro (g1) (And.intro (g2) (And.intro (g3) (And.intro (g4) (g9))))))
        repeat first
          | ((with_reducible apply ends_bind); case h => first | (simp only [stp, stq]; first | done | rfl) | rfl)
          | ((with_reducible apply ends_t); case h => first | rfl | (simp only [stp, stq]; done))
          | ((with_reducible apply ends_f); case h => first | rfl | (simp only [stp, stq]; done))
        exact ends_some ⟨.inl rfl, _, rfl, rfl⟩
  · have g3 : decide (3 ≤ f) = false := decide_eq_false h3
    have g9 : (f == 9) = false := by simp; omega
    rw [if_neg (by omega), if_neg (by omega)]
    have stq := (And.intro (g0) (And.intro (g1) (And.intro (g2) (And.intro (g3) (g9)))))
    repeat first
      | ((with_reducible apply ends_bind); case h => first | (simp only [stp, stq]; first | done | rfl) | rfl)
      | ((with_reducible apply ends_t); case h => first | rfl | (simp only [stp, stq]; done))
      | ((with_reducible apply ends_f); case h => first | rfl | (simp only [stp, stq]; done))
    exact ends_some ⟨.inl rfl, _, rfl, rfl⟩

/-- where a field lies -/
def offV (s f : Int) : AV := if (0 ≤ s ∧ s < 3) ∧ (fld f).2.2 = true then .tup [.v (.int .i64 (18 * s + (fld f).1)), .v (.int .i64 (fld f).2.1), .v (.int .i64 0)] else .tup [.v (.int .i64 0), .v (.int .i64 0), .v (.int .i64 2)]
theorem fld_in (f : Int) : 0 ≤ (fld f).1 ∧ 0 ≤ (fld f).2.1 ∧ (fld f).1 + (fld f).2.1 ≤ 18 := by
  unfold fld
  split
  · decide
  · split
    · decide
    · split
      · decide
      · split
        · simp only; omega
        · split <;> decide
theorem Offset_ev (m : Nat) (s f : Int) : cf (evFn cx0 ext0 (m + 2)) 11 [.v (.int .i64 s), .v (.int .i64 f)] = some (offV s f) := by
  have c1 : cf (evFn cx0 ext0 (m + 1)) 24 [.v (.int .i64 f)] = _ := field_ev m f
  have c2 : cf (evFn cx0 ext0 (m + 1)) 25 [.v (.int .i64 s)] = _ := slot_ev m s
  have hf := fld_in f
  unfold cf
  rw [E_inode_Offset]
  refine ends_cf (P := Try.prog) ?_
  unfold F_inode_Offset
  unfold offV
  generalize fld f = w at *
  obtain ⟨p, q, r⟩ := w
  simp only [fldV] at c1 hf ⊢
  by_cases h0 : 0 ≤ s ∧ s < 3
  · rw [decide_eq_true h0] at c2
    cases r
    · rw [if_neg (by simp)]
      have stq := (And.intro (c1) (And.intro (c2) (And.intro (n_tf) (n_ft))))
      repeat first
        | ((with_reducible apply ends_bind); case h => first | (simp only [stp, stq]; first | done | rfl) | rfl)
        | ((with_reducible apply ends_t); case h => first | rfl | (simp only [stp, stq]; done))
        | ((with_reducible apply ends_f); case h => first | rfl | (simp only [stp, stq]; done))
      exact ends_some ⟨.inl rfl, _, rfl, rfl⟩
    · rw [if_pos ⟨h0, rfl⟩]
      have e1 := wsm (x := 18 * s) (by omega) (by omega)
      have e2 := wsm (x := 18 * s + p) (by omega) (by omega)
      have stq := (And.intro (c1) (And.intro (c2) (And.intro (n_tf) (And.intro (n_ft) (And.intro (e1) (e2))))))
      repeat first
        | ((with_reducible apply ends_bind); case h => first | (simp only [stp, stq]; first | done | rfl) | rfl)
        | ((with_reducible apply ends_t); case h => first | rfl | (simp only [stp, stq]; done))
        | ((with_reducible apply ends_f); case h => first | rfl | (simp only [stp, stq]; done))
      exact ends_some ⟨.inl rfl, _, rfl, rfl⟩
  · rw [decide_eq_false h0] at c2
    rw [if_neg (fun h => h0 h.1)]
    have stq := (And.intro (c1) (And.intro (c2) (And.intro (n_tf) (n_ft))))
    repeat first
      | ((with_reducible apply ends_bind); case h => first | (simp only [stp, stq]; first | done | rfl) | rfl)
      | ((with_reducible apply ends_t); case h => first | rfl | (simp only [stp, stq]; done))
      | ((with_reducible apply ends_f); case h => first | rfl | (simp only [stp, stq]; done))
    exact ends_some ⟨.inl rfl, _, rfl, rfl⟩

/-! ## inodes among boxes -/
def zI : Ino := ⟨0, 0, 0, 0, 0, 0, 0, 0, 0⟩
theorem zI_cells : zI.cells = inoL 0 0 0 0 0 0 0 0 0 := rfl
theorem al_i (bx : Bx) : allocA Try.prog bx 26 = some (.bp bx.length 0, bx ++ [zI.cells]) := by kernel_rfl
theorem z_i : buildA Try.prog 26 [] = some (.agg zI.cells) := by kernel_rfl
theorem box_i (bx : Bx) (x : Ino) : boxA bx (.agg x.cells) = some (.bp bx.length 0, bx ++ [x.cells]) := by
  unfold Ino.cells; exact ino_box _ _ _ _ _ _ _ _ _ bx
theorem frz_i (bx : Bx) (f : Bool) (x : Ino) : frz bx f 6 (.agg x.cells) = .agg x.cells := by cases f <;> rfl
theorem frz_i5 (bx : Bx) (f : Bool) (x : Ino) : frz bx f 5 (.agg x.cells) = .agg x.cells := by cases f <;> rfl
theorem st_i1 (A : List AV) (x y : Ino) (r : Bx) : stA Try.prog 26 (A :: x.cells :: r) (.bp 1 0) (.agg y.cells) = some (.v undef, A :: y.cells :: r) := by
  unfold Ino.cells; kernel_rfl
theorem ld_i0 (x : Ino) (r : Bx) : loadA Try.prog 26 (x.cells :: r) (.bp 0 0) = some (.agg x.cells) := by
  unfold Ino.cells; kernel_rfl
theorem ld_i1 (A : List AV) (x : Ino) (r : Bx) : loadA Try.prog 26 (A :: x.cells :: r) (.bp 1 0) = some (.agg x.cells) := by
  unfold Ino.cells; kernel_rfl

/-- the inode of a slot -/
def atV (p : List UInt8) (s : Int) : AV := if 0 ≤ s ∧ s < 3 then .tup [.agg (gi ((p.drop (18 * s.toNat)).take 18)).cells, .v (.int .i64 0)] else .tup [.agg zI.cells, .v (.int .i64 2)]
theorem At_ev {n : Nat} (hn : 30 ≤ n) (p : List UInt8) (hp : p.length = 54) (s : Int) : cf (evFn cx0 ext0 n) 20 [.agg (u8l p), .v (.int .i64 s)] = some (atV p s) := by
  obtain ⟨m, rfl⟩ : ∃ m, n = m + 2 := ⟨n - 2, by omega⟩
  have c2 : cf (evFn cx0 ext0 (m + 1)) 25 [.v (.int .i64 s)] = _ := slot_ev m s
  have si := fun x y => st_i1 (u8l p) x y []
  unfold cf
  rw [E_inode_At]
  refine ends_cf (P := Try.prog) ?_
  unfold F_inode_At
  unfold atV
  by_cases h0 : 0 ≤ s ∧ s < 3
  · rw [decide_eq_true h0] at c2
    rw [if_pos h0]
    obtain ⟨j, rfl⟩ : ∃ j : Nat, s = j := ⟨s.toNat, by omega⟩
    simp only [Int.toNat_natCast]
    have e1 : IntKind.i64.wrap (18 * (j : Int)) = ((18 * j : Nat) : Int) := by rw [wsm (by omega) (by omega)]; omega
    have s1 := sl_alo hL (bx := [u8l p, zI.cells]) (k := 0) (b := p) rfl hp .i64 (18 * j) (by omega)
    have a1 := ap_b h18 (P := Try.prog) 0 (18 * j) (54 - 18 * j) (by omega)
    have l1 := ld_ao h18 (P := Try.prog) (bx := [u8l p, zI.cells]) (k := 0) (off := 18 * j) (b := p) rfl (by omega)
    have c3 := IGet_ev (n := m + 1) (by omega) ((p.drop (18 * j)).take 18) (by rw [List.length_take, List.length_drop]; omega)
    have stq := (And.intro (box_agg) (And.intro (al_i) (And.intro (c2) (And.intro (n_tf) (And.intro (e1) (And.intro (s1) (And.intro (a1) (And.intro (l1) (And.intro (frz_agg) (And.intro (c3) (si)))))))))))
    repeat first
      | ((with_reducible apply ends_bind); case h => first | (simp only [stp, stq]; first | done | rfl) | rfl)
      | ((with_reducible apply ends_t); case h => first | rfl | (simp only [stp, stq]; done))
      | ((with_reducible apply ends_f); case h => first | rfl | (simp only [stp, stq]; done))
    exact ends_some (retq_ct (ld_i1 _ _ _) (frz_i5 _ _ _))
  · rw [decide_eq_false h0] at c2
    rw [if_neg h0]
    have stq := (And.intro (box_agg) (And.intro (al_i) (And.intro (c2) (And.intro (n_ft) (And.intro (z_i) (si))))))
    repeat first
      | ((with_reducible apply ends_bind); case h => first | (simp only [stp, stq]; first | done | rfl) | rfl)
      | ((with_reducible apply ends_t); case h => first | rfl | (simp only [stp, stq]; done))
      | ((with_reducible apply ends_f); case h => first | rfl | (simp only [stp, stq]; done))
    exact ends_some (retq_ct (ld_i1 _ _ _) (frz_i5 _ _ _))

/-- a load with an inode in a slot -/
def wiL (p : List UInt8) (j : Nat) (x : Ino) : List UInt8 := p.take (18 * j) ++ ib x ++ p.drop (18 * j + 18)
def wiV (p : List UInt8) (s : Int) (x : Ino) : AV := if 0 ≤ s ∧ s < 3 then .tup [.agg (u8l (wiL p s.toNat x)), .v (.int .i64 0)] else .tup [.agg (u8l (zero 54)), .v (.int .i64 2)]
theorem wiL_len (p : List UInt8) (hp : p.length = 54) (j : Nat) (hj : j < 3) (x : Ino) : (wiL p j x).length = 54 := by
  unfold wiL
  rw [List.length_append, List.length_append, List.length_take, List.length_drop, ib_len]
  omega
theorem With_ev' {n : Nat} (hn : 30 ≤ n) (p : List UInt8) (hp : p.length = 54) (s : Int) (x : Ino) : cf (evFn cx0 ext0 n) 22 [.agg (u8l p), .v (.int .i64 s), .agg x.cells] = some (wiV p s x) := by
  obtain ⟨m, rfl⟩ : ∃ m, n = m + 2 := ⟨n - 2, by omega⟩
  have c2 : cf (evFn cx0 ext0 (m + 1)) 25 [.v (.int .i64 s)] = _ := slot_ev m s
  have aL := al_a hL
  have a18 := al_a h18
  have zl : (zero 54).length = 54 := rfl
  have zl8 : (zero 18).length = 18 := rfl
  have zb := z_a hL
  unfold cf
  rw [E_inode_With]
  refine ends_cf (P := Try.prog) ?_
  unfold F_inode_With
  unfold wiV
  by_cases h0 : 0 ≤ s ∧ s < 3
  · rw [decide_eq_true h0] at c2
    rw [if_pos h0]
    obtain ⟨j, rfl⟩ : ∃ j : Nat, s = j := ⟨s.toNat, by omega⟩
    simp only [Int.toNat_natCast]
    have e1 : IntKind.i64.wrap (18 * (j : Int)) = ((18 * j : Nat) : Int) := by rw [wsm (by omega) (by omega)]; omega
    have li := fun r => ld_i1 (u8l p) x r
    have c3 := IPut_ev (n := m + 1) (by omega) x
    have hib := ib_len x
    have st := (sts h18).2.2.2.1
    have s1 := sl_alo hL (bx := [u8l p, x.cells, u8l (zero 54), u8l (ib x)]) (k := 0) (b := p) rfl hp .i64 (18 * j) (by omega)
    have s2 := sl_a h18 (bx := [u8l p, x.cells, u8l (zero 54), u8l (ib x)]) (k := 3) (b := ib x) rfl hib
    have y1 : readA [u8l p, x.cells, u8l (zero 54), u8l (ib x)] (.bsl 3 0 18 1) = some ((ib x).length, u8l (ib x)) := by
      rw [rd_b (b := ib x) rfl, hib, List.drop_zero, List.take_of_length_le (by omega)]
    have cp := cp_b t8 (bx := [u8l p, x.cells, u8l (zero 54), u8l (ib x)]) (k := 0) (off := 18 * j) (n := 54 - 18 * j) (b := p) (d := ib x) (y := .bsl 3 0 18 1) rfl (by omega) y1 (by omega)
    rw [hib] at cp
    simp only [List.set_cons_zero] at cp
    have hw := wiL_len p hp j (by omega) x
    have l2 := ld_a hL (bx := [u8l (wiL p j x), x.cells, u8l (zero 54), u8l (ib x)]) (k := 0) (b := wiL p j x) rfl hw
    have s3 := st_a hL (bx := [u8l (wiL p j x), x.cells, u8l (zero 54), u8l (ib x)]) (k := 2) (b := zero 54) (c := wiL p j x) rfl zl hw
    simp only [List.set_cons_succ, List.set_cons_zero] at s3
    rw [show p.take (18 * j) ++ ib x ++ p.drop (18 * j + 18) = wiL p j x from rfl] at cp
    have stq := (And.intro (box_agg) (And.intro (box_i) (And.intro (aL) (And.intro (a18) (And.intro (c2) (And.intro (n_tf) (And.intro (li) (And.intro (frz_i) (And.intro (c3) (And.intro (st) (And.intro (zl8) (And.intro (hib) (And.intro (e1) (And.intro (s1) (And.intro (s2) (And.intro (cp) (And.intro (l2) (s3))))))))))))))))))
    repeat first
      | ((with_reducible apply ends_bind); case h => first | (simp only [stp, stq]; first | done | rfl) | rfl)
      | ((with_reducible apply ends_t); case h => first | rfl | (simp only [stp, stq]; done))
      | ((with_reducible apply ends_f); case h => first | rfl | (simp only [stp, stq]; done))
    exact ends_some (retq_ct (ld_a hL (b := wiL p j x) rfl hw) (frz_agg _ _ _ _))
  · rw [decide_eq_false h0] at c2
    rw [if_neg h0]
    have s3 := st_a hL (bx := [u8l p, x.cells, u8l (zero 54)]) (k := 2) (b := zero 54) (c := zero 54) rfl zl zl
    simp only [List.set_cons_succ, List.set_cons_zero] at s3
    have stq := (And.intro (box_agg) (And.intro (box_i) (And.intro (aL) (And.intro (c2) (And.intro (n_ft) (And.intro (zb) (s3)))))))
    repeat first
      | ((with_reducible apply ends_bind); case h => first | (simp only [stp, stq]; first | done | rfl) | rfl)
      | ((with_reducible apply ends_t); case h => first | rfl | (simp only [stp, stq]; done))
      | ((with_reducible apply ends_f); case h => first | rfl | (simp only [stp, stq]; done))
    exact ends_some (retq_ct (ld_a hL (b := zero 54) rfl zl) (frz_agg _ _ _ _))
end Go.Sy
