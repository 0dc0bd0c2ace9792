/-
  Layer 06: heads, maps, data, and what lies at a sector.
-/
import Derived.Test.YtkpoapobhgleaaaLwGeom
namespace Go.Sy
open Go.Proofs

theorem Head_ev (m : Nat) (a b c g : Int) : cf (evFn cx0 ext0 (m + 4)) 16 [gV a b c, .v (.int .i64 g)] = some (gIn a b c g 0) := by
  have hb := box_g [] a b c
  have hl := ld_g a b c []
  have c1 : cf (evFn cx0 ext0 (m + 3)) 27 [gV a b c, .v (.int .i64 g), .v (.int .i64 0)] = _ := inG_ev m a b c g 0 (by omega)
  unfold cf
  rw [E_geom_Head]
  refine ends_cf (P := Try.prog) ?_
  unfold F_geom_Head
  by_cases h : gOk a b c ∧ 0 ≤ g ∧ g < a
  · rw [show gIn a b c g 0 = _ from if_pos h] at c1 ⊢
    have stq := (And.intro (hb) (And.intro (hl) (And.intro (frz_g) (c1))))
    repeat first
      | ((with_reducible apply ends_bind); case h => first | (simp only [stp, stq]; first | done | rfl) | rfl)
      | ((with_reducible apply ends_t); case h => first | rfl | (simp only [stp, stq]; done))
      | ((with_reducible apply ends_f); case h => first | rfl | (simp only [stp, stq]; done))
    exact ends_some ⟨.inl rfl, _, rfl, rfl⟩
  · rw [show gIn a b c g 0 = _ from if_neg h] at c1 ⊢
    have stq := (And.intro (hb) (And.intro (hl) (And.intro (frz_g) (c1))))
    repeat first
      | ((with_reducible apply ends_bind); case h => first | (simp only [stp, stq]; first | done | rfl) | rfl)
      | ((with_reducible apply ends_t); case h => first | rfl | (simp only [stp, stq]; done))
      | ((with_reducible apply ends_f); case h => first | rfl | (simp only [stp, stq]; done))
    exact ends_some ⟨.inl rfl, _, rfl, rfl⟩
theorem Maps_ev (m : Nat) (a b c g : Int) : cf (evFn cx0 ext0 (m + 4)) 18 [gV a b c, .v (.int .i64 g)] = some (gIn a b c g 1) := by
  have hb := box_g [] a b c
  have hl := ld_g a b c []
  have c1 : cf (evFn cx0 ext0 (m + 3)) 27 [gV a b c, .v (.int .i64 g), .v (.int .i64 1)] = _ := inG_ev m a b c g 1 (by omega)
  unfold cf
  rw [E_geom_Maps]
  refine ends_cf (P := Try.prog) ?_
  unfold F_geom_Maps
  by_cases h : gOk a b c ∧ 0 ≤ g ∧ g < a
  · rw [show gIn a b c g 1 = _ from if_pos h] at c1 ⊢
    have stq := (And.intro (hb) (And.intro (hl) (And.intro (frz_g) (c1))))
    repeat first
      | ((with_reducible apply ends_bind); case h => first | (simp only [stp, stq]; first | done | rfl) | rfl)
      | ((with_reducible apply ends_t); case h => first | rfl | (simp only [stp, stq]; done))
      | ((with_reducible apply ends_f); case h => first | rfl | (simp only [stp, stq]; done))
    exact ends_some ⟨.inl rfl, _, rfl, rfl⟩
  · rw [show gIn a b c g 1 = _ from if_neg h] at c1 ⊢
    have stq := (And.intro (hb) (And.intro (hl) (And.intro (frz_g) (c1))))
    repeat first
      | ((with_reducible apply ends_bind); case h => first | (simp only [stp, stq]; first | done | rfl) | rfl)
      | ((with_reducible apply ends_t); case h => first | rfl | (simp only [stp, stq]; done))
      | ((with_reducible apply ends_f); case h => first | rfl | (simp only [stp, stq]; done))
    exact ends_some ⟨.inl rfl, _, rfl, rfl⟩
theorem rHead_ev (m : Nat) (a b c g : Int) : cf (evFn cx0 ext0 (m + 4)) 17 [gV a b c, .v (.int .i64 g)] = some (gIn a b c g 0) := by
  have hb := box_g [] a b c
  have hl := ld_g a b c []
  have c1 : cf (evFn cx0 ext0 (m + 3)) 28 [gV a b c, .v (.int .i64 g)] = _ := begin_ev m a b c g
  unfold cf
  rw [E_r06_Head]
  refine ends_cf (P := Try.prog) ?_
  unfold F_r06_Head
  by_cases h : gOk a b c ∧ 0 ≤ g ∧ g < a
  · rw [show gIn a b c g 0 = _ from if_pos h] at c1 ⊢
    have stq := (And.intro (hb) (And.intro (hl) (And.intro (frz_g) (c1))))
    repeat first
      | ((with_reducible apply ends_bind); case h => first | (simp only [stp, stq]; first | done | rfl) | rfl)
      | ((with_reducible apply ends_t); case h => first | rfl | (simp only [stp, stq]; done))
      | ((with_reducible apply ends_f); case h => first | rfl | (simp only [stp, stq]; done))
    exact ends_some ⟨.inl rfl, _, rfl, rfl⟩
  · rw [show gIn a b c g 0 = _ from if_neg h] at c1 ⊢
    have stq := (And.intro (hb) (And.intro (hl) (And.intro (frz_g) (c1))))
    repeat first
      | ((with_reducible apply ends_bind); case h => first | (simp only [stp, stq]; first | done | rfl) | rfl)
      | ((with_reducible apply ends_t); case h => first | rfl | (simp only [stp, stq]; done))
      | ((with_reducible apply ends_f); case h => first | rfl | (simp only [stp, stq]; done))
    exact ends_some ⟨.inl rfl, _, rfl, rfl⟩
theorem gin_small {a b c g x : Int} (h : gOk a b c ∧ 0 ≤ g ∧ g < a) (hx : 0 ≤ x ∧ x ≤ 1000) : 0 ≤ 2 + g * (2 + b + c) + x ∧ 2 + g * (2 + b + c) + x ≤ 4000 := by
  obtain ⟨h, h1, h2⟩ := h
  unfold gOk at h
  have hm := mul_le (a := g) (s := 2 + b + c) (by omega) (by omega) (by omega) (by omega)
  omega
theorem rMaps_ev (m : Nat) (a b c g : Int) : cf (evFn cx0 ext0 (m + 4)) 19 [gV a b c, .v (.int .i64 g)] = some (gIn a b c g 1) := by
  have hb := box_g [] a b c
  have hl := ld_g a b c []
  have c1 : cf (evFn cx0 ext0 (m + 3)) 28 [gV a b c, .v (.int .i64 g)] = _ := begin_ev m a b c g
  unfold cf
  rw [E_r06_Maps]
  refine ends_cf (P := Try.prog) ?_
  unfold F_r06_Maps
  by_cases h : gOk a b c ∧ 0 ≤ g ∧ g < a
  · rw [show gIn a b c g 0 = _ from if_pos h, Int.add_zero] at c1
    rw [show gIn a b c g 1 = _ from if_pos h]
    have hs := gin_small (x := 1) h (by omega)
    have w1 := wsmall (x := 2 + g * (2 + b + c) + 1) (by omega) (by omega)
    have stq := (And.intro (hb) (And.intro (hl) (And.intro (frz_g) (And.intro (c1) (w1)))))
    repeat first
      | ((with_reducible apply ends_bind); case h => first | (simp only [stp, stq]; first | done | rfl) | rfl)
      | ((with_reducible apply ends_t); case h => first | rfl | (simp only [stp, stq]; done))
      | ((with_reducible apply ends_f); case h => first | rfl | (simp only [stp, stq]; done))
    exact ends_some ⟨.inl rfl, _, rfl, rfl⟩
  · rw [show gIn a b c g 0 = _ from if_neg h] at c1
    rw [show gIn a b c g 1 = _ from if_neg h]
    have q : ((2 : Int) != 0) = true := rfl
    have stq := (And.intro (hb) (And.intro (hl) (And.intro (frz_g) (And.intro (c1) (q)))))
    repeat first
      | ((with_reducible apply ends_bind); case h => first | (simp only [stp, stq]; first | done | rfl) | rfl)
      | ((with_reducible apply ends_t); case h => first | rfl | (simp only [stp, stq]; done))
      | ((with_reducible apply ends_f); case h => first | rfl | (simp only [stp, stq]; done))
    exact ends_some ⟨.inl rfl, _, rfl, rfl⟩

/-- a sector of data -/
def gData (a b c g i : Int) : AV := if gOk a b c ∧ 0 ≤ g ∧ g < a ∧ 0 ≤ i ∧ i < c then .tup [.v (.int .i64 (2 + g * (2 + b + c) + (2 + b + i))), .v (.int .i64 0)] else .tup [.v (.int .i64 0), .v (.int .i64 2)]
theorem in_bad (m : Nat) (a b c g x : Int) (h : ¬ gOk a b c) : cf (evFn cx0 ext0 (m + 3)) 27 [gV a b c, .v (.int .i64 g), .v (.int .i64 x)] = some (.tup [.v (.int .i64 0), .v (.int .i64 2)]) := by
  have hb := box_g [] a b c
  have hl := ld_g a b c []
  have c1 : cf (evFn cx0 ext0 (m + 2)) 7 [gV a b c] = _ := Check_ev m a b c
  unfold cf
  rw [E_geom_in]
  refine ends_cf (P := Try.prog) ?_
  unfold F_geom_in
  rw [show gE a b c = 2 from if_neg h] at c1
  have q : ((2 : Int) != 0) = true := rfl
  have stq := (And.intro (hb) (And.intro (hl) (And.intro (frz_g) (And.intro (c1) (q)))))
  repeat first
    | ((with_reducible apply ends_bind); case h => first | (simp only [stp, stq]; first | done | rfl) | rfl)
    | ((with_reducible apply ends_t); case h => first | rfl | (simp only [stp, stq]; done))
    | ((with_reducible apply ends_f); case h => first | rfl | (simp only [stp, stq]; done))
  exact ends_some ⟨.inl rfl, _, rfl, rfl⟩
theorem Data_ev (m : Nat) (a b c g i : Int) : cf (evFn cx0 ext0 (m + 4)) 20 [gV a b c, .v (.int .i64 g), .v (.int .i64 i)] = some (gData a b c g i) := by
  have hb := box_g [] a b c
  have hl := ld_g a b c []
  have hi := ld_i (.v (.int .i64 a)) (.v (.int .i64 b)) (.v (.int .i64 c)) [] []
  have hi1 := ld_i (.v (.int .i64 a)) (.v (.int .i64 b)) (.v (.int .i64 c)) [.v (.int .i64 c)] []
  unfold cf
  rw [E_geom_Data]
  refine ends_cf (P := Try.prog) ?_
  unfold F_geom_Data
  by_cases h1 : i < 0
  · have g1 : decide (i < 0) = true := decide_eq_true h1
    rw [show gData a b c g i = _ from if_neg (by omega)]
    have stq := (And.intro (hb) (g1))
    repeat first
      | ((with_reducible apply ends_bind); case h => first | (simp only [stp, stq]; first | done | rfl) | rfl)
      | ((with_reducible apply ends_t); case h => first | rfl | (simp only [stp, stq]; done))
      | ((with_reducible apply ends_f); case h => first | rfl | (simp only [stp, stq]; done))
    exact ends_some ⟨.inl rfl, _, rfl, rfl⟩
  have g1 : decide (i < 0) = false := decide_eq_false h1
  by_cases h2 : c ≤ i
  · have g2 : decide (c ≤ i) = true := decide_eq_true h2
    rw [show gData a b c g i = _ from if_neg (by omega)]
    have stq := (And.intro (hb) (And.intro (hl) (And.intro (fa_g) (And.intro (hi) (And.intro (g1) (g2))))))
    repeat first
      | ((with_reducible apply ends_bind); case h => first | (simp only [stp, stq]; first | done | rfl) | rfl)
      | ((with_reducible apply ends_t); case h => first | rfl | (simp only [stp, stq]; done))
      | ((with_reducible apply ends_f); case h => first | rfl | (simp only [stp, stq]; done))
    exact ends_some ⟨.inl rfl, _, rfl, rfl⟩
  have g2 : decide (c ≤ i) = false := decide_eq_false h2
  by_cases h : gOk a b c
  · have hk := h
    unfold gOk at hk
    have w1 := wsmall (x := 2 + b) (by omega) (by omega)
    have w2 := wsmall (x := 2 + b + i) (by omega) (by omega)
    have c1 : cf (evFn cx0 ext0 (m + 3)) 27 [gV a b c, .v (.int .i64 g), .v (.int .i64 (2 + b + i))] = _ := inG_ev m a b c g (2 + b + i) (by omega)
    by_cases h3 : 0 ≤ g ∧ g < a
    · rw [show gIn a b c g (2 + b + i) = _ from if_pos ⟨h, h3⟩] at c1
      rw [show gData a b c g i = _ from if_pos ⟨h, h3.1, h3.2, by omega, by omega⟩]
      have stq := (And.intro (hb) (And.intro (hl) (And.intro (frz_g) (And.intro (fa_g) (And.intro (hi) (And.intro (hi1) (And.intro (g1) (And.intro (g2) (And.intro (w1) (And.intro (w2) (c1)))))))))))
      repeat first
        | ((with_reducible apply ends_bind); case h => first | (simp only [stp, stq]; first | done | rfl) | rfl)
        | ((with_reducible apply ends_t); case h => first | rfl | (simp only [stp, stq]; done))
        | ((with_reducible apply ends_f); case h => first | rfl | (simp only [stp, stq]; done))
      exact ends_some ⟨.inl rfl, _, rfl, rfl⟩
    · rw [show gIn a b c g (2 + b + i) = _ from if_neg (by omega)] at c1
      rw [show gData a b c g i = _ from if_neg (by omega)]
      have stq := (And.intro (hb) (And.intro (hl) (And.intro (frz_g) (And.intro (fa_g) (And.intro (hi) (And.intro (hi1) (And.intro (g1) (And.intro (g2) (And.intro (w1) (And.intro (w2) (c1)))))))))))
      repeat first
        | ((with_reducible apply ends_bind); case h => first | (simp only [stp, stq]; first | done | rfl) | rfl)
        | ((with_reducible apply ends_t); case h => first | rfl | (simp only [stp, stq]; done))
        | ((with_reducible apply ends_f); case h => first | rfl | (simp only [stp, stq]; done))
      exact ends_some ⟨.inl rfl, _, rfl, rfl⟩
  · have c1 := fun x => in_bad m a b c g x h
    rw [show gData a b c g i = _ from if_neg (fun hh => h hh.1)]
    have stq := (And.intro (hb) (And.intro (hl) (And.intro (frz_g) (And.intro (fa_g) (And.intro (hi) (And.intro (hi1) (And.intro (g1) (And.intro (g2) (c1)))))))))
    repeat first
      | ((with_reducible apply ends_bind); case h => first | (simp only [stp, stq]; first | done | rfl) | rfl)
      | ((with_reducible apply ends_t); case h => first | rfl | (simp only [stp, stq]; done))
      | ((with_reducible apply ends_f); case h => first | rfl | (simp only [stp, stq]; done))
    exact ends_some ⟨.inl rfl, _, rfl, rfl⟩
theorem rData_ev (m : Nat) (a b c g i : Int) : cf (evFn cx0 ext0 (m + 4)) 21 [gV a b c, .v (.int .i64 g), .v (.int .i64 i)] = some (gData a b c g i) := by
  have hb := box_g [] a b c
  have hl := ld_g a b c []
  have hi := ld_i (.v (.int .i64 a)) (.v (.int .i64 b)) (.v (.int .i64 c)) [] []
  have hi1 := ld_i (.v (.int .i64 a)) (.v (.int .i64 b)) (.v (.int .i64 c)) [.v (.int .i64 c)] []
  have c1 : cf (evFn cx0 ext0 (m + 3)) 28 [gV a b c, .v (.int .i64 g)] = _ := begin_ev m a b c g
  unfold cf
  rw [E_r06_Data]
  refine ends_cf (P := Try.prog) ?_
  unfold F_r06_Data
  by_cases h : gOk a b c ∧ 0 ≤ g ∧ g < a
  · rw [show gIn a b c g 0 = _ from if_pos h, Int.add_zero] at c1
    by_cases h1 : i < 0
    · have g1 : decide (i < 0) = true := decide_eq_true h1
      rw [show gData a b c g i = _ from if_neg (by omega)]
      have stq := (And.intro (hb) (And.intro (hl) (And.intro (frz_g) (And.intro (c1) (g1)))))
      repeat first
        | ((with_reducible apply ends_bind); case h => first | (simp only [stp, stq]; first | done | rfl) | rfl)
        | ((with_reducible apply ends_t); case h => first | rfl | (simp only [stp, stq]; done))
        | ((with_reducible apply ends_f); case h => first | rfl | (simp only [stp, stq]; done))
      exact ends_some ⟨.inl rfl, _, rfl, rfl⟩
    have g1 : decide (i < 0) = false := decide_eq_false h1
    by_cases h2 : c ≤ i
    · have g2 : decide (c ≤ i) = true := decide_eq_true h2
      rw [show gData a b c g i = _ from if_neg (by omega)]
      have stq := (And.intro (hb) (And.intro (hl) (And.intro (frz_g) (And.intro (fa_g) (And.intro (hi) (And.intro (c1) (And.intro (g1) (g2))))))))
      repeat first
        | ((with_reducible apply ends_bind); case h => first | (simp only [stp, stq]; first | done | rfl) | rfl)
        | ((with_reducible apply ends_t); case h => first | rfl | (simp only [stp, stq]; done))
        | ((with_reducible apply ends_f); case h => first | rfl | (simp only [stp, stq]; done))
      exact ends_some ⟨.inl rfl, _, rfl, rfl⟩
    have g2 : decide (c ≤ i) = false := decide_eq_false h2
    have hs := gin_small (x := 0) h (by omega)
    rw [show gData a b c g i = _ from if_pos ⟨h.1, h.2.1, h.2.2, by omega, by omega⟩]
    have hk := h.1
    unfold gOk at hk
    generalize g * (2 + b + c) = z at *
    have w1 := wsmall (x := 2 + z + 2) (by omega) (by omega)
    have w2 := wsmall (x := 2 + z + 2 + b) (by omega) (by omega)
    have w3 := wsmall (x := 2 + z + 2 + b + i) (by omega) (by omega)
    rw [show 2 + z + (2 + b + i) = 2 + z + 2 + b + i by omega]
    have stq := (And.intro (hb) (And.intro (hl) (And.intro (frz_g) (And.intro (fa_g) (And.intro (hi) (And.intro (hi1) (And.intro (c1) (And.intro (g1) (And.intro (g2) (And.intro (w1) (And.intro (w2) (w3))))))))))))
    repeat first
      | ((with_reducible apply ends_bind); case h => first | (simp only [stp, stq]; first | done | rfl) | rfl)
      | ((with_reducible apply ends_t); case h => first | rfl | (simp only [stp, stq]; done))
      | ((with_reducible apply ends_f); case h => first | rfl | (simp only [stp, stq]; done))
    exact ends_some ⟨.inl rfl, _, rfl, rfl⟩
  · rw [show gIn a b c g 0 = _ from if_neg h] at c1
    rw [show gData a b c g i = _ from if_neg (fun hh => h ⟨hh.1, hh.2.1, hh.2.2.1⟩)]
    have q : ((2 : Int) != 0) = true := rfl
    have stq := (And.intro (hb) (And.intro (hl) (And.intro (frz_g) (And.intro (c1) (q)))))
    repeat first
      | ((with_reducible apply ends_bind); case h => first | (simp only [stp, stq]; first | done | rfl) | rfl)
      | ((with_reducible apply ends_t); case h => first | rfl | (simp only [stp, stq]; done))
      | ((with_reducible apply ends_f); case h => first | rfl | (simp only [stp, stq]; done))
    exact ends_some ⟨.inl rfl, _, rfl, rfl⟩

/-! ## what lies at a sector -/
abbrev pV (k g i : Int) : AV := .agg [.v (.int .i64 k), .v (.int .i64 g), .v (.int .i64 i)]
abbrev p3 (k g i : Int) : List AV := [.v (.int .i64 k), .v (.int .i64 g), .v (.int .i64 i)]
def plc (b t q : Int) : AV := if t = 0 then pV 2 q 0 else if t = 1 then pV 3 q 0 else if t < 2 + b then pV 4 q (t - 2) else pV 0 q (t - 2 - b)
def gWhere (a b c s : Int) : AV :=
  if 0 ≤ s ∧ s < gTot a b c then
    (if s < 2 then .tup [pV 1 0 s, .v (.int .i64 0)] else .tup [plc b ((s - 2) % (2 + b + c)) ((s - 2) / (2 + b + c)), .v (.int .i64 0)])
  else .tup [pV 0 0 0, .v (.int .i64 2)]
theorem al_p (bx : Bx) : allocA Try.prog bx 41 = some (.bp bx.length 0, bx ++ [p3 0 0 0]) ∧ allocA Try.prog bx 44 = some (.bp bx.length 0, bx ++ [p3 0 0 0]) := ⟨by kernel_rfl, by kernel_rfl⟩
theorem z_p : buildA Try.prog 41 [] = some (pV 0 0 0) ∧ buildA Try.prog 44 [] = some (pV 0 0 0) := ⟨by kernel_rfl, by kernel_rfl⟩
theorem b_p (x y : Int) : buildA Try.prog 41 [(0, .v (.int .i64 x)), (2, .v (.int .i64 y))] = some (pV x 0 y) := by kernel_rfl
theorem b_p1 (x : Int) : buildA Try.prog 41 [(1, .v (.int .i64 x))] = some (pV 0 x 0) := by kernel_rfl
theorem b_r (x y z : Int) : buildA Try.prog 44 [(0, .v (.int .i64 x)), (1, .v (.int .i64 y)), (2, .v (.int .i64 z))] = some (pV x y z) := by kernel_rfl
theorem st_p (A : List AV) (k g i k' g' i' : Int) (r : Bx) : stA Try.prog 41 (A :: p3 k g i :: r) (.bp 1 0) (pV k' g' i') = some (.v undef, A :: p3 k' g' i' :: r) ∧ stA Try.prog 44 (A :: p3 k g i :: r) (.bp 1 0) (pV k' g' i') = some (.v undef, A :: p3 k' g' i' :: r) := ⟨by kernel_rfl, by kernel_rfl⟩
theorem st_p2 (A B : List AV) (k g i k' g' i' : Int) : stA Try.prog 41 [A, B, p3 k g i] (.bp 2 0) (pV k' g' i') = some (.v undef, [A, B, p3 k' g' i']) := by kernel_rfl
theorem st_pf (A B : List AV) (k g i y : Int) : stA Try.prog 3 [A, B, p3 k g i] (.bp 2 0) (.v (.int .i64 y)) = some (.v undef, [A, B, p3 y g i]) ∧ stA Try.prog 3 [A, B, p3 k g i] (.bp 2 2) (.v (.int .i64 y)) = some (.v undef, [A, B, p3 k g y]) := ⟨by kernel_rfl, by kernel_rfl⟩
theorem ld_p (A B : List AV) (k g i : Int) : loadA Try.prog 41 [A, B, p3 k g i] (.bp 2 0) = some (pV k g i) := by kernel_rfl
theorem fa_p (k : Nat) : fieldAddrA Try.prog 41 (.bp k 0) 0 = some (.bp k 0) ∧ fieldAddrA Try.prog 41 (.bp k 0) 2 = some (.bp k 2) := ⟨by kernel_rfl, by kernel_rfl⟩
theorem frz_p (bx : Bx) (l : Bool) (a b c : Int) : frz bx l 6 (pV a b c) = pV a b c := rfl

theorem Where_ev (m : Nat) (a b c s : Int) : cf (evFn cx0 ext0 (m + 4)) 22 [gV a b c, .v (.int .i64 s)] = some (gWhere a b c s) := by
  have hb := box_g [] a b c
  have hl := fun r => ld_g a b c r
  have hi1 := fun r => ld_i (.v (.int .i64 a)) (.v (.int .i64 b)) (.v (.int .i64 c)) [.v (.int .i64 c)] r
  have c1 : cf (evFn cx0 ext0 (m + 3)) 9 [gV a b c] = _ := Total_ev m a b c
  have s1 := fun k g i k' g' i' r => st_p [.v (.int .i64 a), .v (.int .i64 b), .v (.int .i64 c)] k g i k' g' i' r
  unfold cf
  rw [E_geom_Where]
  refine ends_cf (P := Try.prog) ?_
  unfold F_geom_Where
  by_cases h1 : s < 0
  · have g1 : decide (s < 0) = true := decide_eq_true h1
    rw [show gWhere a b c s = _ from if_neg (by omega)]
    have stq := (And.intro (hb) (And.intro (al_p) (And.intro (s1) (And.intro (hl) (And.intro (frz_g) (And.intro (z_p) (g1)))))))
    repeat first
      | ((with_reducible apply ends_bind); case h => first | (simp only [stp, stq]; first | done | rfl) | rfl)
      | ((with_reducible apply ends_t); case h => first | rfl | (simp only [stp, stq]; done))
      | ((with_reducible apply ends_f); case h => first | rfl | (simp only [stp, stq]; done))
    exact ends_some ⟨.inl rfl, _, rfl, rfl⟩
  have g1 : decide (s < 0) = false := decide_eq_false h1
  by_cases h2 : gTot a b c ≤ s
  · have g2 : decide (gTot a b c ≤ s) = true := decide_eq_true h2
    rw [show gWhere a b c s = _ from if_neg (by omega)]
    have stq := (And.intro (hb) (And.intro (al_p) (And.intro (s1) (And.intro (hl) (And.intro (frz_g) (And.intro (z_p) (And.intro (g1) (And.intro (g2) (c1)))))))))
    repeat first
      | ((with_reducible apply ends_bind); case h => first | (simp only [stp, stq]; first | done | rfl) | rfl)
      | ((with_reducible apply ends_t); case h => first | rfl | (simp only [stp, stq]; done))
      | ((with_reducible apply ends_f); case h => first | rfl | (simp only [stp, stq]; done))
    exact ends_some ⟨.inl rfl, _, rfl, rfl⟩
  have g2 : decide (gTot a b c ≤ s) = false := decide_eq_false h2
  rw [show gWhere a b c s = _ from if_pos (by omega)]
  by_cases h3 : s < 2
  · have g3 : decide (s < 2) = true := decide_eq_true h3
    rw [if_pos h3]
    have stq := (And.intro (hb) (And.intro (al_p) (And.intro (s1) (And.intro (hl) (And.intro (frz_g) (And.intro (b_p) (And.intro (g1) (And.intro (g2) (And.intro (g3) (c1))))))))))
    repeat first
      | ((with_reducible apply ends_bind); case h => first | (simp only [stp, stq]; first | done | rfl) | rfl)
      | ((with_reducible apply ends_t); case h => first | rfl | (simp only [stp, stq]; done))
      | ((with_reducible apply ends_f); case h => first | rfl | (simp only [stp, stq]; done))
    exact ends_some ⟨.inl rfl, _, rfl, rfl⟩
  have g3 : decide (s < 2) = false := decide_eq_false h3
  rw [if_neg h3]
  have hok : gOk a b c := by
    apply Decidable.byContradiction
    intro hn
    rw [show gTot a b c = 0 from if_neg hn] at h2
    omega
  have hq : gTot a b c = 2 + a * (2 + b + c) := if_pos hok
  have c2 : cf (evFn cx0 ext0 (m + 3)) 26 [gV a b c] = _ := size_ev (m + 2) a b c hok
  unfold gOk at hok
  have hm := mul_le (a := a) (s := 2 + b + c) (by omega) (by omega) (by omega) (by omega)
  have w0 := wsmall (x := s - 2) (by omega) (by omega)
  have q0 : binA Try.prog .quo 3 (.v (.int .i64 (s - 2))) (.v (.int .i64 (2 + b + c))) = some (.v (.int .i64 ((s - 2) / (2 + b + c)))) := by
    have : (s - 2) / (2 + b + c) ≤ s - 2 := Int.ediv_le_self _ (by omega)
    have : 0 ≤ (s - 2) / (2 + b + c) := Int.ediv_nonneg (by omega) (by omega)
    rw [bin_quo _ _ _ _ _ (by omega), Int.tdiv_eq_ediv_of_nonneg (by omega), wsmall (by omega) (by omega)]
  have q1 : binA Try.prog .rem 3 (.v (.int .i64 (s - 2))) (.v (.int .i64 (2 + b + c))) = some (.v (.int .i64 ((s - 2) % (2 + b + c)))) := by
    rw [bin_rem _ _ _ _ _ (by omega), Int.tmod_eq_emod_of_nonneg (by omega)]
  have t0 : 0 ≤ (s - 2) % (2 + b + c) := Int.emod_nonneg _ (by omega)
  have t1 : (s - 2) % (2 + b + c) < 2 + b + c := Int.emod_lt_of_pos _ (by omega)
  generalize (s - 2) / (2 + b + c) = q at *
  generalize (s - 2) % (2 + b + c) = t at *
  have s2 := fun k g i k' g' i' => st_p2 [.v (.int .i64 a), .v (.int .i64 b), .v (.int .i64 c)] (p3 0 0 0) k g i k' g' i'
  have s3 := fun k g i y => st_pf [.v (.int .i64 a), .v (.int .i64 b), .v (.int .i64 c)] (p3 0 0 0) k g i y
  have s4 := fun k g i => ld_p [.v (.int .i64 a), .v (.int .i64 b), .v (.int .i64 c)] (p3 0 0 0) k g i
  have r5 := fun (k : Nat) => fa_p k
  have w1 := wsmall (x := 2 + b) (by omega) (by omega)
  have w2 := wsmall (x := t - 2) (by omega) (by omega)
  have w3 := wsmall (x := t - 2 - b) (by omega) (by omega)
  unfold plc
  by_cases h4 : t = 0
  · rw [if_pos h4]
    have g4 : (t == 0) = true := by simp [h4]
    have stq := (And.intro (hb) (And.intro (al_p) (And.intro (s1) (And.intro (s2) (And.intro (s3) (And.intro (s4) (And.intro (r5) (And.intro (hl) (And.intro (frz_g) (And.intro (b_p1) (And.intro (g1) (And.intro (g2) (And.intro (g3) (And.intro (g4) (And.intro (c1) (And.intro (c2) (And.intro (w0) (And.intro (q0) (q1)))))))))))))))))))
    repeat first
      | ((with_reducible apply ends_bind); case h => first | (simp only [stp, stq]; first | done | rfl) | rfl)
      | ((with_reducible apply ends_t); case h => first | rfl | (simp only [stp, stq]; done))
      | ((with_reducible apply ends_f); case h => first | rfl | (simp only [stp, stq]; done))
    exact ends_some ⟨.inl rfl, _, rfl, rfl⟩
  rw [if_neg h4]
  have g4 : (t == 0) = false := by simp [h4]
  by_cases h5 : t = 1
  · rw [if_pos h5]
    have g5 : (t == 1) = true := by simp [h5]
    have stq := (And.intro (hb) (And.intro (al_p) (And.intro (s1) (And.intro (s2) (And.intro (s3) (And.intro (s4) (And.intro (r5) (And.intro (hl) (And.intro (frz_g) (And.intro (b_p1) (And.intro (g1) (And.intro (g2) (And.intro (g3) (And.intro (g4) (And.intro (g5) (And.intro (c1) (And.intro (c2) (And.intro (w0) (And.intro (q0) (q1))))))))))))))))))))
    repeat first
      | ((with_reducible apply ends_bind); case h => first | (simp only [stp, stq]; first | done | rfl) | rfl)
      | ((with_reducible apply ends_t); case h => first | rfl | (simp only [stp, stq]; done))
      | ((with_reducible apply ends_f); case h => first | rfl | (simp only [stp, stq]; done))
    exact ends_some ⟨.inl rfl, _, rfl, rfl⟩
  rw [if_neg h5]
  have g5 : (t == 1) = false := by simp [h5]
  by_cases h6 : t < 2 + b
  · rw [if_pos h6]
    have g6 : decide (t < 2 + b) = true := decide_eq_true h6
    have stq := (And.intro (hb) (And.intro (al_p) (And.intro (s1) (And.intro (s2) (And.intro (s3) (And.intro (s4) (And.intro (r5) (And.intro (hl) (And.intro (hi1) (And.intro (fa_g) (And.intro (frz_g) (And.intro (b_p1) (And.intro (g1) (And.intro (g2) (And.intro (g3) (And.intro (g4) (And.intro (g5) (And.intro (g6) (And.intro (c1) (And.intro (c2) (And.intro (w0) (And.intro (w1) (And.intro (w2) (And.intro (q0) (q1)))))))))))))))))))))))))
    repeat first
      | ((with_reducible apply ends_bind); case h => first | (simp only [stp, stq]; first | done | rfl) | rfl)
      | ((with_reducible apply ends_t); case h => first | rfl | (simp only [stp, stq]; done))
      | ((with_reducible apply ends_f); case h => first | rfl | (simp only [stp, stq]; done))
    exact ends_some ⟨.inl rfl, _, rfl, rfl⟩
  rw [if_neg h6]
  have g6 : decide (t < 2 + b) = false := decide_eq_false h6
  have stq := (And.intro (hb) (And.intro (al_p) (And.intro (s1) (And.intro (s2) (And.intro (s3) (And.intro (s4) (And.intro (r5) (And.intro (hl) (And.intro (hi1) (And.intro (fa_g) (And.intro (frz_g) (And.intro (b_p1) (And.intro (g1) (And.intro (g2) (And.intro (g3) (And.intro (g4) (And.intro (g5) (And.intro (g6) (And.intro (c1) (And.intro (c2) (And.intro (w0) (And.intro (w1) (And.intro (w2) (And.intro (w3) (And.intro (q0) (q1))))))))))))))))))))))))))
  repeat first
    | ((with_reducible apply ends_bind); case h => first | (simp only [stp, stq]; first | done | rfl) | rfl)
    | ((with_reducible apply ends_t); case h => first | rfl | (simp only [stp, stq]; done))
    | ((with_reducible apply ends_f); case h => first | rfl | (simp only [stp, stq]; done))
  exact ends_some ⟨.inl rfl, _, rfl, rfl⟩

theorem rWhere_ev (m : Nat) (a b c s : Int) : cf (evFn cx0 ext0 (m + 4)) 23 [gV a b c, .v (.int .i64 s)] = some (gWhere a b c s) := by
  have hb := box_g [] a b c
  have hl := fun r => ld_g a b c r
  have hi := fun r => ld_i (.v (.int .i64 a)) (.v (.int .i64 b)) (.v (.int .i64 c)) [] r
  have hi1 := fun r => ld_i (.v (.int .i64 a)) (.v (.int .i64 b)) (.v (.int .i64 c)) [.v (.int .i64 c)] r
  have c0 : cf (evFn cx0 ext0 (m + 3)) 8 [gV a b c] = _ := rCheck_ev (m + 2) a b c
  have c1 : cf (evFn cx0 ext0 (m + 3)) 10 [gV a b c] = _ := rTotal_ev m a b c
  have s1 := fun k g i k' g' i' r => st_p [.v (.int .i64 a), .v (.int .i64 b), .v (.int .i64 c)] k g i k' g' i' r
  unfold cf
  rw [E_r06_Where]
  refine ends_cf (P := Try.prog) ?_
  unfold F_r06_Where
  by_cases hok : gOk a b c
  case neg =>
    rw [show gE a b c = 2 from if_neg hok] at c0
    have q : ((2 : Int) != 0) = true := rfl
    rw [show gWhere a b c s = _ from if_neg (by rw [show gTot a b c = 0 from if_neg hok]; omega)]
    have stq := (And.intro (hb) (And.intro (al_p) (And.intro (s1) (And.intro (hl) (And.intro (frz_g) (And.intro (z_p) (And.intro (c0) (q))))))))
    repeat first
      | ((with_reducible apply ends_bind); case h => first | (simp only [stp, stq]; first | done | rfl) | rfl)
      | ((with_reducible apply ends_t); case h => first | rfl | (simp only [stp, stq]; done))
      | ((with_reducible apply ends_f); case h => first | rfl | (simp only [stp, stq]; done))
    exact ends_some ⟨.inl rfl, _, rfl, rfl⟩
  rw [show gE a b c = 0 from if_pos hok] at c0
  by_cases h1 : s < 0
  · have g1 : decide (s < 0) = true := decide_eq_true h1
    rw [show gWhere a b c s = _ from if_neg (by omega)]
    have stq := (And.intro (hb) (And.intro (al_p) (And.intro (s1) (And.intro (hl) (And.intro (frz_g) (And.intro (z_p) (And.intro (g1) (c0))))))))
    repeat first
      | ((with_reducible apply ends_bind); case h => first | (simp only [stp, stq]; first | done | rfl) | rfl)
      | ((with_reducible apply ends_t); case h => first | rfl | (simp only [stp, stq]; done))
      | ((with_reducible apply ends_f); case h => first | rfl | (simp only [stp, stq]; done))
    exact ends_some ⟨.inl rfl, _, rfl, rfl⟩
  have g1 : decide (s < 0) = false := decide_eq_false h1
  by_cases h2 : gTot a b c ≤ s
  · have g2 : decide (gTot a b c ≤ s) = true := decide_eq_true h2
    rw [show gWhere a b c s = _ from if_neg (by omega)]
    have stq := (And.intro (hb) (And.intro (al_p) (And.intro (s1) (And.intro (hl) (And.intro (frz_g) (And.intro (z_p) (And.intro (g1) (And.intro (g2) (And.intro (c0) (c1))))))))))
    repeat first
      | ((with_reducible apply ends_bind); case h => first | (simp only [stp, stq]; first | done | rfl) | rfl)
      | ((with_reducible apply ends_t); case h => first | rfl | (simp only [stp, stq]; done))
      | ((with_reducible apply ends_f); case h => first | rfl | (simp only [stp, stq]; done))
    exact ends_some ⟨.inl rfl, _, rfl, rfl⟩
  have g2 : decide (gTot a b c ≤ s) = false := decide_eq_false h2
  rw [show gWhere a b c s = _ from if_pos (by omega)]
  by_cases h3 : s < 2
  · have g3 : decide (s < 2) = true := decide_eq_true h3
    rw [if_pos h3]
    have stq := (And.intro (hb) (And.intro (al_p) (And.intro (s1) (And.intro (hl) (And.intro (frz_g) (And.intro (b_r) (And.intro (g1) (And.intro (g2) (And.intro (g3) (And.intro (c0) (c1)))))))))))
    repeat first
      | ((with_reducible apply ends_bind); case h => first | (simp only [stp, stq]; first | done | rfl) | rfl)
      | ((with_reducible apply ends_t); case h => first | rfl | (simp only [stp, stq]; done))
      | ((with_reducible apply ends_f); case h => first | rfl | (simp only [stp, stq]; done))
    exact ends_some ⟨.inl rfl, _, rfl, rfl⟩
  have g3 : decide (s < 2) = false := decide_eq_false h3
  rw [if_neg h3]
  have hq : gTot a b c = 2 + a * (2 + b + c) := if_pos hok
  unfold gOk at hok
  have hm := mul_le (a := a) (s := 2 + b + c) (by omega) (by omega) (by omega) (by omega)
  have w0 := wsmall (x := s - 2) (by omega) (by omega)
  have w1 := wsmall (x := 2 + b) (by omega) (by omega)
  have w11 := wsmall (x := 2 + b + c) (by omega) (by omega)
  have q0 : binA Try.prog .quo 3 (.v (.int .i64 (s - 2))) (.v (.int .i64 (2 + b + c))) = some (.v (.int .i64 ((s - 2) / (2 + b + c)))) := by
    have : (s - 2) / (2 + b + c) ≤ s - 2 := Int.ediv_le_self _ (by omega)
    have : 0 ≤ (s - 2) / (2 + b + c) := Int.ediv_nonneg (by omega) (by omega)
    rw [bin_quo _ _ _ _ _ (by omega), Int.tdiv_eq_ediv_of_nonneg (by omega), wsmall (by omega) (by omega)]
  have q1 : binA Try.prog .rem 3 (.v (.int .i64 (s - 2))) (.v (.int .i64 (2 + b + c))) = some (.v (.int .i64 ((s - 2) % (2 + b + c)))) := by
    rw [bin_rem _ _ _ _ _ (by omega), Int.tmod_eq_emod_of_nonneg (by omega)]
  have t0 : 0 ≤ (s - 2) % (2 + b + c) := Int.emod_nonneg _ (by omega)
  have t1 : (s - 2) % (2 + b + c) < 2 + b + c := Int.emod_lt_of_pos _ (by omega)
  generalize (s - 2) / (2 + b + c) = q at *
  generalize (s - 2) % (2 + b + c) = t at *
  have w2 := wsmall (x := t - 2) (by omega) (by omega)
  have w3 := wsmall (x := t - 2 - b) (by omega) (by omega)
  unfold plc
  by_cases h4 : t = 0
  · rw [if_pos h4]
    have g4 : (t == 0) = true := by simp [h4]
    have stq := (And.intro (hb) (And.intro (al_p) (And.intro (s1) (And.intro (hl) (And.intro (hi) (And.intro (hi1) (And.intro (fa_g) (And.intro (frz_g) (And.intro (b_r) (And.intro (g1) (And.intro (g2) (And.intro (g3) (And.intro (g4) (And.intro (c0) (And.intro (c1) (And.intro (w0) (And.intro (w1) (And.intro (w11) (And.intro (q0) (q1))))))))))))))))))))
    repeat first
      | ((with_reducible apply ends_bind); case h => first | (simp only [stp, stq]; first | done | rfl) | rfl)
      | ((with_reducible apply ends_t); case h => first | rfl | (simp only [stp, stq]; done))
      | ((with_reducible apply ends_f); case h => first | rfl | (simp only [stp, stq]; done))
    exact ends_some ⟨.inl rfl, _, rfl, rfl⟩
  rw [if_neg h4]
  have g4 : (t == 0) = false := by simp [h4]
  by_cases h5 : t = 1
  · rw [if_pos h5]
    have g5 : (t == 1) = true := by simp [h5]
    have stq := (And.intro (hb) (And.intro (al_p) (And.intro (s1) (And.intro (hl) (And.intro (hi) (And.intro (hi1) (And.intro (fa_g) (And.intro (frz_g) (And.intro (b_r) (And.intro (g1) (And.intro (g2) (And.intro (g3) (And.intro (g4) (And.intro (g5) (And.intro (c0) (And.intro (c1) (And.intro (w0) (And.intro (w1) (And.intro (w11) (And.intro (q0) (q1)))))))))))))))))))))
    repeat first
      | ((with_reducible apply ends_bind); case h => first | (simp only [stp, stq]; first | done | rfl) | rfl)
      | ((with_reducible apply ends_t); case h => first | rfl | (simp only [stp, stq]; done))
      | ((with_reducible apply ends_f); case h => first | rfl | (simp only [stp, stq]; done))
    exact ends_some ⟨.inl rfl, _, rfl, rfl⟩
  rw [if_neg h5]
  have g5 : (t == 1) = false := by simp [h5]
  by_cases h6 : t < 2 + b
  · rw [if_pos h6]
    have g6 : decide (t < 2 + b) = true := decide_eq_true h6
    have stq := (And.intro (hb) (And.intro (al_p) (And.intro (s1) (And.intro (hl) (And.intro (hi) (And.intro (hi1) (And.intro (fa_g) (And.intro (frz_g) (And.intro (b_r) (And.intro (g1) (And.intro (g2) (And.intro (g3) (And.intro (g4) (And.intro (g5) (And.intro (g6) (And.intro (c0) (And.intro (c1) (And.intro (w0) (And.intro (w1) (And.intro (w11) (And.intro (w2) (And.intro (q0) (q1)))))))))))))))))))))))
    repeat first
      | ((with_reducible apply ends_bind); case h => first | (simp only [stp, stq]; first | done | rfl) | rfl)
      | ((with_reducible apply ends_t); case h => first | rfl | (simp only [stp, stq]; done))
      | ((with_reducible apply ends_f); case h => first | rfl | (simp only [stp, stq]; done))
    exact ends_some ⟨.inl rfl, _, rfl, rfl⟩
  rw [if_neg h6]
  have g6 : decide (t < 2 + b) = false := decide_eq_false h6
  have stq := (And.intro (hb) (And.intro (al_p) (And.intro (s1) (And.intro (hl) (And.intro (hi) (And.intro (hi1) (And.intro (fa_g) (And.intro (frz_g) (And.intro (b_r) (And.intro (g1) (And.intro (g2) (And.intro (g3) (And.intro (g4) (And.intro (g5) (And.intro (g6) (And.intro (c0) (And.intro (c1) (And.intro (w0) (And.intro (w1) (And.intro (w11) (And.intro (w2) (And.intro (w3) (And.intro (q0) (q1))))))))))))))))))))))))
  repeat first
    | ((with_reducible apply ends_bind); case h => first | (simp only [stp, stq]; first | done | rfl) | rfl)
    | ((with_reducible apply ends_t); case h => first | rfl | (simp only [stp, stq]; done))
    | ((with_reducible apply ends_f); case h => first | rfl | (simp only [stp, stq]; done))
  exact ends_some ⟨.inl rfl, _, rfl, rfl⟩
end Go.Sy
