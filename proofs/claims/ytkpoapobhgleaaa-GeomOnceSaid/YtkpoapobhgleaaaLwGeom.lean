/-
  Layer 06's laws as the reader reads them: GeomSizes, GeomInodes.
-/
import Derived.Test.YtkpoapobhgleaaaPfGeom
namespace Go.Sy
open Go.Proofs

theorem works_at (n : Nat) (h : 60 ≤ n) : cf (evFn cx0 ext0 n) 13 [] = some (.v (.bool true)) := by
  obtain ⟨m, rfl⟩ : ∃ m, n = m + 60 := ⟨n - 60, by omega⟩
  kernel_rfl

theorem sizes_ev (a b c : Int) : cf (evFn cx0 ext0 100) 3 [gV a b c] = some (.v (.bool true)) := by
  have hw := works_at 99 (by omega)
  have hb := box_g [] a b c
  have hl := ld_g a b c []
  have c1 : cf (evFn cx0 ext0 99) 7 [gV a b c] = _ := Check_ev 97 a b c
  have c2 : cf (evFn cx0 ext0 99) 8 [gV a b c] = _ := rCheck_ev 98 a b c
  have c3 : cf (evFn cx0 ext0 99) 9 [gV a b c] = _ := Total_ev 96 a b c
  have c4 : cf (evFn cx0 ext0 99) 10 [gV a b c] = _ := rTotal_ev 96 a b c
  have c5 : cf (evFn cx0 ext0 99) 11 [gV a b c] = _ := Inodes_ev 96 a b c
  have c6 : cf (evFn cx0 ext0 99) 12 [gV a b c] = _ := rInodes_ev 96 a b c
  unfold cf
  rw [E_l06_GeomSizes]
  refine ends_cf (P := Try.prog) ?_
  unfold F_l06_GeomSizes
  have stq := (And.intro (hw) (And.intro (hb) (And.intro (hl) (And.intro (frz_g) (And.intro (c1) (And.intro (c2) (And.intro (c3) (And.intro (c4) (And.intro (c5) (c6))))))))))
  repeat first
    | ((with_reducible apply ends_bind); case h => first | (simp only [stp, stq]; first | done | rfl) | rfl)
    | ((with_reducible apply ends_t); case h => first | rfl | (simp only [stp, stq]; done))
    | ((with_reducible apply ends_f); case h => first | rfl | (simp only [stp, stq]; done))
  exact ends_some ⟨.inl rfl, _, rfl, rfl⟩

theorem uniq {q q' S x x' : Int} (h1 : 0 ≤ x) (h2 : x < S) (h3 : 0 ≤ x') (h4 : x' < S) (h : q * S + x = q' * S + x') : q = q' ∧ x = x' := by
  have e : q = q' := by
    have a1 : (x + q * S) / S = x / S + q := Int.add_mul_ediv_right x q (by omega)
    have a2 : (x' + q' * S) / S = x' / S + q' := Int.add_mul_ediv_right x' q' (by omega)
    rw [Int.ediv_eq_zero_of_lt h1 h2] at a1
    rw [Int.ediv_eq_zero_of_lt h3 h4] at a2
    rw [show x + q * S = x' + q' * S by omega] at a1
    omega
  subst e
  exact ⟨rfl, by omega⟩

theorem ino_uniq {a b c i j : Int} (h1 : 1 ≤ i ∧ i ≤ gIno a b c) (h2 : 1 ≤ j ∧ j ≤ gIno a b c) (hs : (sIno b c i).1 = (sIno b c j).1) (hl : (sIno b c i).2.1 = (sIno b c j).2.1) : i = j := by
  have hok : gOk a b c := by
    apply Decidable.byContradiction
    intro hn
    rw [show gIno a b c = 0 from if_neg hn] at h1
    omega
  rw [show gIno a b c = 3 * a * b from if_pos hok] at h1 h2
  unfold gOk at hok
  have n1 := ino_in (a := a) (b := b) (i := i) (by omega) (by omega) (by omega) (by omega) h1.1 h1.2
  have n2 := ino_in (a := a) (b := b) (i := j) (by omega) (by omega) (by omega) (by omega) h2.1 h2.2
  simp only [sIno] at hs hl
  generalize (i - 1) / (3 * b) = q at *
  generalize (i - 1) % (3 * b) = r at *
  generalize (j - 1) / (3 * b) = q' at *
  generalize (j - 1) % (3 * b) = r' at *
  have hu := uniq (q := q) (q' := q') (S := 2 + b + c) (x := r / 3) (x' := r' / 3) (by omega) (by omega) (by omega) (by omega) (by omega)
  obtain ⟨rfl, hx⟩ := hu
  have : r = r' := by omega
  subst this
  omega

theorem l4a (A : List AV) (s l g x : Int) (r : Bx) : loadA Try.prog 3 (A :: s4 s l g x :: r) (.bp 1 0) = some (.v (.int .i64 s)) ∧ loadA Try.prog 3 (A :: s4 s l g x :: r) (.bp 1 1) = some (.v (.int .i64 l)) ∧ loadA Try.prog 3 (A :: s4 s l g x :: r) (.bp 1 2) = some (.v (.int .i64 g)) ∧ loadA Try.prog 3 (A :: s4 s l g x :: r) (.bp 1 3) = some (.v (.int .i64 x)) := ⟨by kernel_rfl, by kernel_rfl, by kernel_rfl, by kernel_rfl⟩
theorem l4b (A B : List AV) (s l g x : Int) (r : Bx) : loadA Try.prog 3 (A :: B :: s4 s l g x :: r) (.bp 2 0) = some (.v (.int .i64 s)) ∧ loadA Try.prog 3 (A :: B :: s4 s l g x :: r) (.bp 2 1) = some (.v (.int .i64 l)) ∧ loadA Try.prog 3 (A :: B :: s4 s l g x :: r) (.bp 2 2) = some (.v (.int .i64 g)) ∧ loadA Try.prog 3 (A :: B :: s4 s l g x :: r) (.bp 2 3) = some (.v (.int .i64 x)) := ⟨by kernel_rfl, by kernel_rfl, by kernel_rfl, by kernel_rfl⟩
theorem l4c (A B C : List AV) (s l g x : Int) (r : Bx) : loadA Try.prog 3 (A :: B :: C :: s4 s l g x :: r) (.bp 3 0) = some (.v (.int .i64 s)) ∧ loadA Try.prog 3 (A :: B :: C :: s4 s l g x :: r) (.bp 3 1) = some (.v (.int .i64 l)) ∧ loadA Try.prog 3 (A :: B :: C :: s4 s l g x :: r) (.bp 3 2) = some (.v (.int .i64 g)) ∧ loadA Try.prog 3 (A :: B :: C :: s4 s l g x :: r) (.bp 3 3) = some (.v (.int .i64 x)) := ⟨by kernel_rfl, by kernel_rfl, by kernel_rfl, by kernel_rfl⟩
theorem fa_r (k : Nat) : fieldAddrA Try.prog 33 (.bp k 0) 0 = some (.bp k 0) ∧ fieldAddrA Try.prog 33 (.bp k 0) 1 = some (.bp k 1) ∧ fieldAddrA Try.prog 33 (.bp k 0) 2 = some (.bp k 2) ∧ fieldAddrA Try.prog 33 (.bp k 0) 3 = some (.bp k 3) := ⟨by kernel_rfl, by kernel_rfl, by kernel_rfl, by kernel_rfl⟩
theorem st_a (A : List AV) (s l g x s' l' g' x' : Int) : stA Try.prog 30 [A, s4 s l g x] (.bp 1 0) (sV s' l' g' x') = some (.v undef, [A, s4 s' l' g' x']) := by kernel_rfl
theorem st_b (A B : List AV) (s l g x s' l' g' x' : Int) : stA Try.prog 33 [A, B, s4 s l g x] (.bp 2 0) (sV s' l' g' x') = some (.v undef, [A, B, s4 s' l' g' x']) := by kernel_rfl
theorem st_c (A B C : List AV) (s l g x s' l' g' x' : Int) : stA Try.prog 30 [A, B, C, s4 s l g x] (.bp 3 0) (sV s' l' g' x') = some (.v undef, [A, B, C, s4 s' l' g' x']) := by kernel_rfl

theorem inodes_ev (a b c i j : Int) (hi : -9223372036854775808 ≤ i ∧ i < 2 ^ 63) (hj : -9223372036854775808 ≤ j ∧ j < 2 ^ 63) : cf (evFn cx0 ext0 100) 4 [gV a b c, .v (.int .i64 i), .v (.int .i64 j)] = some (.v (.bool true)) := by
  have hw := works_at 99 (by omega)
  have hb := box_g [] a b c
  have hl := fun r => ld_g a b c r
  have c1 : cf (evFn cx0 ext0 99) 14 [gV a b c, .v (.int .i64 i)] = _ := Inode_ev 95 a b c i hi.2 hi.1
  have c2 : cf (evFn cx0 ext0 99) 15 [gV a b c, .v (.int .i64 i)] = _ := rInode_ev 95 a b c i hi.2 hi.1
  have c3 : cf (evFn cx0 ext0 99) 14 [gV a b c, .v (.int .i64 j)] = _ := Inode_ev 95 a b c j hj.2 hj.1
  have v : ∀ k, (1 ≤ k ∧ k ≤ gIno a b c ∧ gSlot a b c k = .tup [sV (sIno b c k).1 (sIno b c k).2.1 (sIno b c k).2.2.1 (sIno b c k).2.2.2, .v (.int .i64 0)]) ∨ gSlot a b c k = .tup [sV 0 0 0 0, .v (.int .i64 2)] := by
    intro k
    unfold gSlot
    split
    · rename_i h; exact .inl ⟨h.1, h.2, rfl⟩
    · exact .inr rfl
  have q1 : ((2 : Int) != 0) = true := rfl
  have q2 : ((0 : Int) != 0) = false := rfl
  unfold cf
  rw [E_l06_GeomInodes]
  refine ends_cf (P := Try.prog) ?_
  unfold F_l06_GeomInodes
  rcases v i with ⟨hi1, hi2, hv⟩ | hv
  · rw [hv] at c1 c2
    rcases v j with ⟨hj1, hj2, hu⟩ | hu
    · rw [hu] at c3
      have hun := fun hs hl => ino_uniq (a := a) (b := b) (c := c) ⟨hi1, hi2⟩ ⟨hj1, hj2⟩ hs hl
      generalize sIno b c i = s at *
      generalize sIno b c j = u at *
      obtain ⟨s0, s1, s2, s3⟩ := s
      obtain ⟨u0, u1, u2, u3⟩ := u
      simp only at *
      by_cases h1 : i = j
      · have g1 : (i == j) = true := by simpa using h1
        have stq := (And.intro (hw) (And.intro (hb) (And.intro (al_s) (And.intro (hl) (And.intro (frz_g) (And.intro (c1) (And.intro (c2) (And.intro (c3) (And.intro (st_a) (And.intro (st_b) (And.intro (st_c) (And.intro (fa_s) (And.intro (fa_r) (And.intro (l4a) (And.intro (l4b) (And.intro (l4c) (And.intro (q2) (g1))))))))))))))))))
        repeat first
          | ((with_reducible apply ends_bind); case h => first | (simp only [stp, stq]; first | done | rfl) | rfl)
          | ((with_reducible apply ends_t); case h => first | rfl | (simp only [stp, stq]; done))
          | ((with_reducible apply ends_f); case h => first | rfl | (simp only [stp, stq]; done))
        exact ends_some ⟨.inl rfl, _, rfl, rfl⟩
      · have g1 : (i == j) = false := by simpa using h1
        by_cases h2 : s0 = u0
        · have g2 : (s0 != u0) = false := by simpa using h2
          have g3 : (s1 != u1) = true := by
            have : s1 ≠ u1 := fun h3 => h1 (hun h2 h3)
            simpa using this
          have stq := (And.intro (hw) (And.intro (hb) (And.intro (al_s) (And.intro (hl) (And.intro (frz_g) (And.intro (c1) (And.intro (c2) (And.intro (c3) (And.intro (st_a) (And.intro (st_b) (And.intro (st_c) (And.intro (fa_s) (And.intro (fa_r) (And.intro (l4a) (And.intro (l4b) (And.intro (l4c) (And.intro (q2) (And.intro (g1) (And.intro (g2) (g3))))))))))))))))))))
          repeat first
            | ((with_reducible apply ends_bind); case h => first | (simp only [stp, stq]; first | done | rfl) | rfl)
            | ((with_reducible apply ends_t); case h => first | rfl | (simp only [stp, stq]; done))
            | ((with_reducible apply ends_f); case h => first | rfl | (simp only [stp, stq]; done))
          exact ends_some ⟨.inl rfl, _, rfl, rfl⟩
        · have g2 : (s0 != u0) = true := by simpa using h2
          have stq := (And.intro (hw) (And.intro (hb) (And.intro (al_s) (And.intro (hl) (And.intro (frz_g) (And.intro (c1) (And.intro (c2) (And.intro (c3) (And.intro (st_a) (And.intro (st_b) (And.intro (st_c) (And.intro (fa_s) (And.intro (fa_r) (And.intro (l4a) (And.intro (l4b) (And.intro (l4c) (And.intro (q2) (And.intro (g1) (g2)))))))))))))))))))
          repeat first
            | ((with_reducible apply ends_bind); case h => first | (simp only [stp, stq]; first | done | rfl) | rfl)
            | ((with_reducible apply ends_t); case h => first | rfl | (simp only [stp, stq]; done))
            | ((with_reducible apply ends_f); case h => first | rfl | (simp only [stp, stq]; done))
          exact ends_some ⟨.inl rfl, _, rfl, rfl⟩
    · rw [hu] at c3
      have stq := (And.intro (hw) (And.intro (hb) (And.intro (al_s) (And.intro (hl) (And.intro (frz_g) (And.intro (c1) (And.intro (c2) (And.intro (c3) (And.intro (st_a) (And.intro (st_b) (And.intro (st_c) (And.intro (fa_s) (And.intro (fa_r) (And.intro (l4a) (And.intro (l4b) (And.intro (l4c) (And.intro (q1) (q2))))))))))))))))))
      repeat first
        | ((with_reducible apply ends_bind); case h => first | (simp only [stp, stq]; first | done | rfl) | rfl)
        | ((with_reducible apply ends_t); case h => first | rfl | (simp only [stp, stq]; done))
        | ((with_reducible apply ends_f); case h => first | rfl | (simp only [stp, stq]; done))
      exact ends_some ⟨.inl rfl, _, rfl, rfl⟩
  · rw [hv] at c1 c2
    have hc : ∃ s l g x e, cf (evFn cx0 ext0 99) 14 [gV a b c, .v (.int .i64 j)] = some (.tup [sV s l g x, .v (.int .i64 e)]) := by
      rcases v j with ⟨_, _, hu⟩ | hu
      · exact ⟨_, _, _, _, _, by rw [c3, hu]⟩
      · exact ⟨_, _, _, _, _, by rw [c3, hu]⟩
    obtain ⟨s, l, g, x, e, c3⟩ := hc
    have stq := (And.intro (hw) (And.intro (hb) (And.intro (al_s) (And.intro (hl) (And.intro (frz_g) (And.intro (c1) (And.intro (c2) (And.intro (c3) (And.intro (st_a) (And.intro (st_b) (And.intro (st_c) (And.intro (fa_s) (And.intro (fa_r) (And.intro (l4a) (And.intro (l4b) (And.intro (l4c) (And.intro (q1) (q2))))))))))))))))))
    repeat first
      | ((with_reducible apply ends_bind); case h => first | (simp only [stp, stq]; first | done | rfl) | rfl)
      | ((with_reducible apply ends_t); case h => first | rfl | (simp only [stp, stq]; done))
      | ((with_reducible apply ends_f); case h => first | rfl | (simp only [stp, stq]; done))
    exact ends_some ⟨.inl rfl, _, rfl, rfl⟩

theorem fits_geom {l : List AV} (h : ShFits [.int .i64, .int .i64, .int .i64] l) : ∃ x : Int × Int × Int, True ∧ l = [.v (.int .i64 x.1), .v (.int .i64 x.2.1), .v (.int .i64 x.2.2)] := by
  match l, h with
  | [a, b, c], h =>
    obtain ⟨a, rfl, _⟩ := fit_i64 (h.2 0 a _ rfl rfl)
    obtain ⟨b, rfl, _⟩ := fit_i64 (h.2 1 b _ rfl rfl)
    obtain ⟨c, rfl, _⟩ := fit_i64 (h.2 2 c _ rfl rfl)
    exact ⟨(a, b, c), trivial, rfl⟩
  | [], h => simp [ShFits] at h
  | [_], h => simp [ShFits] at h
  | [_, _], h => simp [ShFits] at h
  | _ :: _ :: _ :: _ :: _, h => simp [ShFits] at h
end Go.Sy
