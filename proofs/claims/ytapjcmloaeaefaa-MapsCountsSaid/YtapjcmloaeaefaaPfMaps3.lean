/-
  Layer 09: heads; the example works.
-/
import Derived.Test.YtapjcmloaeaefaaPfMaps2
namespace Go.Sy
open Go.Proofs Num Go.Proofs.Ytapjcmloaeaefaa

theorem works_at (n : Nat) (h : 300 ≤ n) : cf (evFn cx0 ext0 n) 11 [] = some (.v (.bool true)) := by
  obtain ⟨m, rfl⟩ : ∃ m, n = m + 300 := ⟨n - 300, by omega⟩
  kernel_rfl
abbrev z54 : List UInt8 := List.replicate 54 0
def hd (g : Int) : List UInt8 := if 0 ≤ g ∧ g < 8 then UInt8.ofNat g.toNat :: List.replicate 53 0 else z54
theorem hd_len (g : Int) : (hd g).length = 54 := by unfold hd; split <;> rfl
def hdE (g : Int) : Int := if 0 ≤ g ∧ g < 8 then 0 else 2
def headV (g : Int) : AV := .tup [.agg (u8l (hd g)), .v (.int .i64 (hdE g))]
theorem h2b : arr8 Try.prog 53 2 = true := by kernel_rfl
theorem cv_u16 (bx : Bx) (n : Nat) (h : n < 65536) : convA Try.prog bx 3 55 (.v (.int .i64 n)) = some (.v (.int .u16 n), bx) := by
  have e : convA Try.prog bx 3 55 (.v (.int .i64 n)) = some (.v (.int .u16 (IntKind.u16.wrap n)), bx) := by kernel_rfl
  have w : IntKind.u16.wrap (n : Int) = n := by rw [wrap16]; omega
  rw [e, w]
theorem cv_u8 (bx : Bx) (n : Nat) (h : n < 256) : convA Try.prog bx 3 5 (.v (.int .i64 n)) = some (u8 (UInt8.ofNat n), bx) := by
  have e : convA Try.prog bx 3 5 (.v (.int .i64 n)) = some (.v (.int .u8 (IntKind.u8.wrap n)), bx) := by kernel_rfl
  rw [e, wr8]
theorem Head_ev (m : Nat) (g : Int) : cf (evFn cx0 ext0 (m + 12)) 15 [.v (.int .i64 g)] = some (headV g) := by
  have aL := al_a hL (P := Try.prog)
  have zl : z54.length = 54 := rfl
  unfold cf
  rw [E_maps_Head]
  refine ends_cf (P := Try.prog) ?_
  unfold F_maps_Head headV hdE
  have l1 := ld_a hL (P := Try.prog) (bx := [u8l z54, u8l z54]) (k := 1) (b := z54) rfl zl
  have s1 := st_a hL (P := Try.prog) (bx := [u8l z54, u8l z54]) (k := 0) (b := z54) (c := z54) rfl zl zl
  simp only [List.set_cons_succ, List.set_cons_zero] at s1
  by_cases h : 0 ≤ g ∧ g < 8
  · rw [if_pos h]
    obtain ⟨g, rfl⟩ : ∃ x : Nat, g = x := ⟨g.toNat, by omega⟩
    have hh : hd (g : Int) = UInt8.ofNat g :: List.replicate 53 0 := by unfold hd; rw [if_pos h]; rfl
    have g1 : decide ((g : Int) < 0) = false := decide_eq_false (by omega)
    have g2 : decide ((g : Int) ≥ 8) = false := decide_eq_false (by omega)
    have cv := fun bx => cv_u16 bx g (by omega)
    have c2 : cf (evFn cx0 ext0 (m + 11)) 33 [.v (.int .u16 g)] = some (.agg (u8l (p16 g))) := put16_ev (m + 10) g
    have a2 := al_a h2b (P := Try.prog)
    have zl2 : (List.replicate 2 (0 : UInt8)).length = 2 := rfl
    have hp2 : (p16 g).length = 2 := rfl
    have s3 := st_a h2b (P := Try.prog) (bx := [u8l z54, u8l z54, u8l (List.replicate 2 0)]) (k := 2) (b := List.replicate 2 0) (c := p16 g) rfl zl2 hp2
    simp only [List.set_cons_succ, List.set_cons_zero] at s3
    have q1 := sl_a hL (P := Try.prog) (bx := [u8l z54, u8l z54, u8l (p16 g)]) (k := 1) (b := z54) rfl zl
    have q2 := sl_a h2b (P := Try.prog) (bx := [u8l z54, u8l z54, u8l (p16 g)]) (k := 2) (b := p16 g) rfl hp2
    have y2 : readA [u8l z54, u8l z54, u8l (p16 g)] (.bsl 2 0 2 1) = some ((p16 g).length, u8l (p16 g)) := by
      rw [rd_b (b := p16 g) rfl, hp2, List.drop_zero, List.take_of_length_le (by omega)]
    have cp2 := cp_b t8 (bx := [u8l z54, u8l z54, u8l (p16 g)]) (k := 1) (off := 0) (n := 54) (b := z54) (d := p16 g) (y := .bsl 2 0 2 1) rfl (by decide) y2 (by rw [hp2]; omega)
    have hnew : z54.take 0 ++ p16 g ++ z54.drop (0 + (p16 g).length) = hd g := by
      rw [hh]
      unfold p16
      rw [show g / 256 = 0 by omega]
      rfl
    rw [hnew] at cp2
    simp only [List.set_cons_succ, List.set_cons_zero] at cp2
    have hl := hd_len g
    have l3 := ld_a hL (P := Try.prog) (bx := [u8l z54, u8l (hd g), u8l (p16 g)]) (k := 1) (b := hd g) rfl hl
    have s4 := st_a hL (P := Try.prog) (bx := [u8l z54, u8l (hd g), u8l (p16 g)]) (k := 0) (b := z54) (c := hd g) rfl zl hl
    simp only [List.set_cons_succ, List.set_cons_zero] at s4
    have stq := (And.intro (aL) (And.intro (g1) (And.intro (g2) (And.intro (cv) (And.intro (c2) (And.intro (a2) (And.intro (s3) (And.intro (q1) (And.intro (q2) (And.intro (cp2) (And.intro (l3) (s4))))))))))))
    repeat first
      | ((with_reducible apply ends_bind); case h => first | (simp only [stp, stq]; first | done | rfl) | rfl)
      | ((with_reducible apply ends_t); case h => first | rfl | (simp only [stp, stq]; done))
      | ((with_reducible apply ends_f); case h => first | rfl | (simp only [stp, stq]; done))
    exact ends_some (retq_ct (ld_a hL (b := hd g) rfl hl) (frz_agg _ _ _ _))
  · rw [if_neg h, show hd g = z54 from if_neg h]
    by_cases h0 : g < 0
    · have g1 : decide (g < 0) = true := decide_eq_true h0
      have stq := (And.intro (aL) (And.intro (g1) (And.intro (l1) (s1))))
      repeat first
        | ((with_reducible apply ends_bind); case h => first | (simp only [stp, stq]; first | done | rfl) | rfl)
        | ((with_reducible apply ends_t); case h => first | rfl | (simp only [stp, stq]; done))
        | ((with_reducible apply ends_f); case h => first | rfl | (simp only [stp, stq]; done))
      exact ends_some (retq_ct (ld_a hL (b := z54) rfl zl) (frz_agg _ _ _ _))
    · have g1 : decide (g < 0) = false := decide_eq_false h0
      have g2 : decide (g ≥ 8) = true := decide_eq_true (by omega)
      have stq := (And.intro (aL) (And.intro (g1) (And.intro (g2) (And.intro (l1) (s1)))))
      repeat first
        | ((with_reducible apply ends_bind); case h => first | (simp only [stp, stq]; first | done | rfl) | rfl)
        | ((with_reducible apply ends_t); case h => first | rfl | (simp only [stp, stq]; done))
        | ((with_reducible apply ends_f); case h => first | rfl | (simp only [stp, stq]; done))
      exact ends_some (retq_ct (ld_a hL (b := z54) rfl zl) (frz_agg _ _ _ _))
theorem rHead_ev (m : Nat) (g : Int) : cf (evFn cx0 ext0 (m + 12)) 16 [.v (.int .i64 g)] = some (headV g) := by
  have aL := al_a hL (P := Try.prog)
  have zL := z_a hL (P := Try.prog)
  have zl : z54.length = 54 := rfl
  unfold cf
  rw [E_r09_Head]
  refine ends_cf (P := Try.prog) ?_
  unfold F_r09_Head headV hdE
  have l1 := ld_a hL (P := Try.prog) (bx := [u8l z54, u8l z54]) (k := 1) (b := z54) rfl zl
  have s0 := st_a hL (P := Try.prog) (bx := [u8l z54, u8l z54]) (k := 1) (b := z54) (c := z54) rfl zl zl
  have s1 := st_a hL (P := Try.prog) (bx := [u8l z54, u8l z54]) (k := 0) (b := z54) (c := z54) rfl zl zl
  simp only [List.set_cons_succ, List.set_cons_zero] at s0 s1
  by_cases h : 0 ≤ g ∧ g < 8
  · rw [if_pos h]
    obtain ⟨g, rfl⟩ : ∃ x : Nat, g = x := ⟨g.toNat, by omega⟩
    have hh : hd (g : Int) = UInt8.ofNat g :: List.replicate 53 0 := by unfold hd; rw [if_pos h]; rfl
    have g1 : decide ((g : Int) < 0) = false := decide_eq_false (by omega)
    have g2 : decide ((g : Int) > 7) = false := decide_eq_false (by omega)
    have cv := fun bx => cv_u8 bx g (by omega)
    have x2 : indexAddrA Try.prog 23 (.bp 1 0) (.v (.int .i64 0)) = some (.bp 1 0) := by kernel_rfl
    have s5 := st_b8 (P := Try.prog) (t := 5) (by kernel_rfl) [u8l z54, u8l z54] 1 0 z54 (UInt8.ofNat g) rfl (by decide)
    rw [show z54.set 0 (UInt8.ofNat g) = hd g by rw [hh]; rfl] at s5
    simp only [List.set_cons_succ, List.set_cons_zero] at s5
    have hl := hd_len g
    have l3 := ld_a hL (P := Try.prog) (bx := [u8l z54, u8l (hd g)]) (k := 1) (b := hd g) rfl hl
    have s4 := st_a hL (P := Try.prog) (bx := [u8l z54, u8l (hd g)]) (k := 0) (b := z54) (c := hd g) rfl zl hl
    simp only [List.set_cons_succ, List.set_cons_zero] at s4
    have stq := (And.intro (aL) (And.intro (zL) (And.intro (s0) (And.intro (g1) (And.intro (g2) (And.intro (cv) (And.intro (x2) (And.intro (s5) (And.intro (l3) (s4))))))))))
    repeat first
      | ((with_reducible apply ends_bind); case h => first | (simp only [stp, stq]; first | done | rfl) | rfl)
      | ((with_reducible apply ends_t); case h => first | rfl | (simp only [stp, stq]; done))
      | ((with_reducible apply ends_f); case h => first | rfl | (simp only [stp, stq]; done))
    exact ends_some (retq_ct (ld_a hL (b := hd g) rfl hl) (frz_agg _ _ _ _))
  · rw [if_neg h, show hd g = z54 from if_neg h]
    by_cases h0 : g < 0
    · have g1 : decide (g < 0) = true := decide_eq_true h0
      have stq := (And.intro (aL) (And.intro (zL) (And.intro (s0) (And.intro (g1) (And.intro (l1) (s1))))))
      repeat first
        | ((with_reducible apply ends_bind); case h => first | (simp only [stp, stq]; first | done | rfl) | rfl)
        | ((with_reducible apply ends_t); case h => first | rfl | (simp only [stp, stq]; done))
        | ((with_reducible apply ends_f); case h => first | rfl | (simp only [stp, stq]; done))
      exact ends_some (retq_ct (ld_a hL (b := z54) rfl zl) (frz_agg _ _ _ _))
    · have g1 : decide (g < 0) = false := decide_eq_false h0
      have g2 : decide (g > 7) = true := decide_eq_true (by omega)
      have stq := (And.intro (aL) (And.intro (zL) (And.intro (s0) (And.intro (g1) (And.intro (g2) (And.intro (l1) (s1)))))))
      repeat first
        | ((with_reducible apply ends_bind); case h => first | (simp only [stp, stq]; first | done | rfl) | rfl)
        | ((with_reducible apply ends_t); case h => first | rfl | (simp only [stp, stq]; done))
        | ((with_reducible apply ends_f); case h => first | rfl | (simp only [stp, stq]; done))
      exact ends_some (retq_ct (ld_a hL (b := z54) rfl zl) (frz_agg _ _ _ _))
def rightV (p : List UInt8) (g : Int) : Bool := decide (0 ≤ g ∧ g < 8) && (p == hd g)
theorem HeadRight_ev (m : Nat) (p : List UInt8) (hp : p.length = 54) (g : Int) : cf (evFn cx0 ext0 (m + 13)) 17 [.agg (u8l p), .v (.int .i64 g)] = some (.v (.bool (rightV p g))) := by
  have c1 : cf (evFn cx0 ext0 (m + 12)) 15 [.v (.int .i64 g)] = _ := Head_ev m g
  unfold headV at c1
  have aL := al_a hL (P := Try.prog)
  have zl : z54.length = 54 := rfl
  have hl := hd_len g
  have s1 := st_a hL (P := Try.prog) (bx := [u8l p, u8l z54]) (k := 1) (b := z54) (c := hd g) rfl zl hl
  simp only [List.set_cons_succ, List.set_cons_zero] at s1
  have l0 := ld_a hL (P := Try.prog) (bx := [u8l p, u8l (hd g)]) (k := 0) (b := p) rfl hp
  have l1 := ld_a hL (P := Try.prog) (bx := [u8l p, u8l (hd g)]) (k := 1) (b := hd g) rfl hl
  have e1 := (eq_a hL (P := Try.prog) (a := p) (b := hd g) hp hl).1
  unfold cf
  rw [E_maps_HeadRight]
  refine ends_cf (P := Try.prog) ?_
  unfold F_maps_HeadRight rightV
  by_cases h : 0 ≤ g ∧ g < 8
  · rw [show hdE g = 0 from if_pos h] at c1
    rw [decide_eq_true h, Bool.true_and]
    have z0 : ((0 : Int) == 0) = true := rfl
    have stq := (And.intro (box_agg) (And.intro (c1) (And.intro (aL) (And.intro (s1) (And.intro (z0) (And.intro (l0) (And.intro (l1) (e1))))))))
    repeat first
      | ((with_reducible apply ends_bind); case h => first | (simp only [stp, stq]; first | done | rfl) | rfl)
      | ((with_reducible apply ends_t); case h => first | rfl | (simp only [stp, stq]; done))
      | ((with_reducible apply ends_f); case h => first | rfl | (simp only [stp, stq]; done))
    exact ends_some ⟨.inl rfl, _, rfl, by cases (p == hd g) <;> rfl⟩
  · rw [show hdE g = 2 from if_neg h] at c1
    rw [decide_eq_false h, Bool.false_and]
    have z0 : ((2 : Int) == 0) = false := rfl
    have stq := (And.intro (box_agg) (And.intro (c1) (And.intro (aL) (And.intro (s1) (z0)))))
    repeat first
      | ((with_reducible apply ends_bind); case h => first | (simp only [stp, stq]; first | done | rfl) | rfl)
      | ((with_reducible apply ends_t); case h => first | rfl | (simp only [stp, stq]; done))
      | ((with_reducible apply ends_f); case h => first | rfl | (simp only [stp, stq]; done))
    exact ends_some ⟨.inl rfl, _, rfl, rfl⟩
theorem rHeadRight_ev (m : Nat) (p : List UInt8) (hp : p.length = 54) (g : Int) : cf (evFn cx0 ext0 (m + 13)) 18 [.agg (u8l p), .v (.int .i64 g)] = some (.v (.bool (rightV p g))) := by
  have c1 : cf (evFn cx0 ext0 (m + 12)) 16 [.v (.int .i64 g)] = _ := rHead_ev m g
  unfold headV at c1
  have aL := al_a hL (P := Try.prog)
  have zl : z54.length = 54 := rfl
  have hl := hd_len g
  have s1 := st_a hL (P := Try.prog) (bx := [u8l p, u8l z54]) (k := 1) (b := z54) (c := hd g) rfl zl hl
  simp only [List.set_cons_succ, List.set_cons_zero] at s1
  have l0 := ld_a hL (P := Try.prog) (bx := [u8l p, u8l (hd g)]) (k := 0) (b := p) rfl hp
  have l1 := ld_a hL (P := Try.prog) (bx := [u8l p, u8l (hd g)]) (k := 1) (b := hd g) rfl hl
  have e1 := (eq_a hL (P := Try.prog) (a := p) (b := hd g) hp hl).1
  unfold cf
  rw [E_r09_HeadRight]
  refine ends_cf (P := Try.prog) ?_
  unfold F_r09_HeadRight rightV
  by_cases h : 0 ≤ g ∧ g < 8
  · rw [show hdE g = 0 from if_pos h] at c1
    rw [decide_eq_true h, Bool.true_and]
    have z0 : ((0 : Int) == 0) = true := rfl
    have stq := (And.intro (box_agg) (And.intro (c1) (And.intro (aL) (And.intro (s1) (And.intro (z0) (And.intro (l0) (And.intro (l1) (e1))))))))
    repeat first
      | ((with_reducible apply ends_bind); case h => first | (simp only [stp, stq]; first | done | rfl) | rfl)
      | ((with_reducible apply ends_t); case h => first | rfl | (simp only [stp, stq]; done))
      | ((with_reducible apply ends_f); case h => first | rfl | (simp only [stp, stq]; done))
    exact ends_some ⟨.inl rfl, _, rfl, by cases (p == hd g) <;> rfl⟩
  · rw [show hdE g = 2 from if_neg h] at c1
    rw [decide_eq_false h, Bool.false_and]
    have z0 : ((2 : Int) == 0) = false := rfl
    have stq := (And.intro (box_agg) (And.intro (c1) (And.intro (aL) (And.intro (s1) (z0)))))
    repeat first
      | ((with_reducible apply ends_bind); case h => first | (simp only [stp, stq]; first | done | rfl) | rfl)
      | ((with_reducible apply ends_t); case h => first | rfl | (simp only [stp, stq]; done))
      | ((with_reducible apply ends_f); case h => first | rfl | (simp only [stp, stq]; done))
    exact ends_some ⟨.inl rfl, _, rfl, rfl⟩
end Go.Sy
