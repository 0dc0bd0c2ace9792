/-
  Layer 06: the law GeomOnce as the reader reads it, whole.
-/
import Derived.Test.YtkpoapobhgleaaaLwOnce3
namespace Go.Sy
open Go.Proofs

theorem once_ev (x y z : Int) : cf (evFn cx0 ext0 2000) 6 [.v (.int .i64 x), .v (.int .i64 y), .v (.int .i64 z)] = some (.v (.bool true)) := by
  have hw := works_at 1999 (by omega)
  obtain ⟨k1, h1, m1⟩ := among_ev 1998 x 8 (by omega) (by omega)
  obtain ⟨k2, h2, m2⟩ := among_ev 1998 y 8 (by omega) (by omega)
  obtain ⟨k3, h3, m3⟩ := among_ev 1998 z 30 (by omega) (by omega)
  have a1 : cf (evFn cx0 ext0 1999) 24 [.v (.int .i64 x), .v (.int .i64 8)] = _ := m1
  have a2 : cf (evFn cx0 ext0 1999) 24 [.v (.int .i64 y), .v (.int .i64 8)] = _ := m2
  have a3 : cf (evFn cx0 ext0 1999) 24 [.v (.int .i64 z), .v (.int .i64 30)] = _ := m3
  have e1 : IntKind.i64.wrap (1 + (k1 : Int)) = ((1 + k1 : Nat) : Int) := by rw [wsmall (by omega) (by omega)]; omega
  have e2 : IntKind.i64.wrap (1 + (k2 : Int)) = ((1 + k2 : Nat) : Int) := by rw [wsmall (by omega) (by omega)]; omega
  have e3 : IntKind.i64.wrap (4 + (k3 : Int)) = ((4 + k3 : Nat) : Int) := by rw [wsmall (by omega) (by omega)]; omega
  have ha : 1 ≤ 1 + k1 ∧ 1 + k1 ≤ 8 := by omega
  have hb : 1 ≤ 1 + k2 ∧ 1 + k2 ≤ 8 := by omega
  have hc : 4 ≤ 4 + k3 ∧ 4 + k3 ≤ 33 := by omega
  generalize 1 + k1 = a at *
  generalize 1 + k2 = b at *
  generalize 4 + k3 = c at *
  have hS := aS_le ha hb hc
  have hl : ∀ r : Bx, loadA Try.prog 23 (p3 a b c :: r) (.bp 0 0) = some (gV a b c) := fun r => ld_g a b c r
  have t1 : cf (evFn cx0 ext0 1999) 9 [gV a b c] = _ := Total_ev 1996 a b c
  rw [tot_n ha hb hc] at t1
  have hs := fun a' b' c' => st_gg 0 0 0 a' b' c'
  have mk := mk_il [p3 a b c] (2 + a * (2 + b + c)) (by omega)
  have ln := fun k => len_il k (2 + a * (2 + b + c))
  have g2 : decide (((2 + a * (2 + b + c) : Nat) : Int) < 2) = false := decide_eq_false (by omega)
  have i0 : indexAddrA Try.prog 48 (.bsl 1 0 (2 + a * (2 + b + c)) 1) (.v (.int .i64 0)) = some (.bp 1 0) := ix_il 1 _ 0 (by omega)
  have i1 : indexAddrA Try.prog 48 (.bsl 1 0 (2 + a * (2 + b + c)) 1) (.v (.int .i64 1)) = some (.bp 1 1) := ix_il 1 _ 1 (by omega)
  have s0 := st_il (List.replicate (2 + a * (2 + b + c)) 0) 0 1 (by simp; omega) (p3 a b c) []
  have s1 := st_il ((List.replicate (2 + a * (2 + b + c)) 0).set 0 1) 1 1 (by simp; omega) (p3 a b c) []
  have pz : (fun _ _ => false) = pA b 0 := by
    funext q t
    simp [pA]
  rw [seen_zero (2 + b + c) (2 + a * (2 + b + c)) (by omega), pz] at s1
  unfold cf
  rw [E_l06_GeomOnce]
  refine ends_cf (P := Try.prog) ?_
  unfold F_l06_GeomOnce
  have stq := (And.intro (hw) (And.intro (a1) (And.intro (a2) (And.intro (a3) (And.intro (e1) (And.intro (e2) (And.intro (e3) (And.intro (b_g) (And.intro (al_gg) (And.intro (hs) (And.intro (hl) (And.intro (frz_g) (And.intro (t1) (And.intro (mk) (And.intro (ln) (And.intro (g2) (And.intro (i0) (And.intro (i1) (And.intro (s0) (s1))))))))))))))))))))
  repeat first
    | ((with_reducible apply ends_bind); case h => first | (simp only [stp, stq]; first | done | rfl) | rfl)
    | ((with_reducible apply ends_t); case h => first | rfl | (simp only [stp, stq]; done))
    | ((with_reducible apply ends_f); case h => first | rfl | (simp only [stp, stq]; done))
  exact stage1 ha hb hc _ _ _ _ _ _ _ rfl
end Go.Sy
