/-
  Layer 06: the law GeomTells as the reader reads it.
-/
import Derived.Test.YtkpoapobhgleaaaPfGeom2
namespace Go.Sy
open Go.Proofs

theorem gIn_form (a b c g x : Int) : ∃ n e, gIn a b c g x = .tup [.v (.int .i64 n), .v (.int .i64 e)] := by
  unfold gIn
  split
  · exact ⟨_, _, rfl⟩
  · exact ⟨_, _, rfl⟩
theorem gData_form (a b c g x : Int) : ∃ n e, gData a b c g x = .tup [.v (.int .i64 n), .v (.int .i64 e)] := by
  unfold gData
  split
  · exact ⟨_, _, rfl⟩
  · exact ⟨_, _, rfl⟩
theorem gSlot_form (a b c i : Int) : ∃ s l g x e, gSlot a b c i = .tup [sV s l g x, .v (.int .i64 e)] := by
  unfold gSlot
  split
  · exact ⟨_, _, _, _, _, rfl⟩
  · exact ⟨_, _, _, _, _, rfl⟩
theorem gWhere_form (a b c s : Int) : ∃ k g i e, gWhere a b c s = .tup [pV k g i, .v (.int .i64 e)] := by
  unfold gWhere plc
  split
  · split
    · exact ⟨_, _, _, _, rfl⟩
    · split
      · exact ⟨_, _, _, _, rfl⟩
      · split
        · exact ⟨_, _, _, _, rfl⟩
        · split
          · exact ⟨_, _, _, _, rfl⟩
          · exact ⟨_, _, _, _, rfl⟩
  · exact ⟨_, _, _, _, rfl⟩
theorem fa_q (k : Nat) : fieldAddrA Try.prog 41 (.bp k 0) 0 = some (.bp k 0) ∧ fieldAddrA Try.prog 41 (.bp k 0) 1 = some (.bp k 1) ∧ fieldAddrA Try.prog 41 (.bp k 0) 2 = some (.bp k 2) := ⟨by kernel_rfl, by kernel_rfl, by kernel_rfl⟩
theorem fa_qr (k : Nat) : fieldAddrA Try.prog 44 (.bp k 0) 0 = some (.bp k 0) ∧ fieldAddrA Try.prog 44 (.bp k 0) 1 = some (.bp k 1) ∧ fieldAddrA Try.prog 44 (.bp k 0) 2 = some (.bp k 2) := ⟨by kernel_rfl, by kernel_rfl, by kernel_rfl⟩
theorem st_d3 (A B C : List AV) (k g i k' g' i' : Int) : stA Try.prog 41 [A, B, C, p3 k g i] (.bp 3 0) (pV k' g' i') = some (.v undef, [A, B, C, p3 k' g' i']) := by kernel_rfl
theorem st_d4 (A B C D : List AV) (k g i k' g' i' : Int) : stA Try.prog 44 [A, B, C, D, p3 k g i] (.bp 4 0) (pV k' g' i') = some (.v undef, [A, B, C, D, p3 k' g' i']) := by kernel_rfl
theorem l3c (A B C : List AV) (k g i : Int) (r : Bx) : loadA Try.prog 3 (A :: B :: C :: p3 k g i :: r) (.bp 3 0) = some (.v (.int .i64 k)) ∧ loadA Try.prog 3 (A :: B :: C :: p3 k g i :: r) (.bp 3 1) = some (.v (.int .i64 g)) ∧ loadA Try.prog 3 (A :: B :: C :: p3 k g i :: r) (.bp 3 2) = some (.v (.int .i64 i)) := ⟨by kernel_rfl, by kernel_rfl, by kernel_rfl⟩
theorem l3d (A B C D : List AV) (k g i : Int) (r : Bx) : loadA Try.prog 3 (A :: B :: C :: D :: p3 k g i :: r) (.bp 4 0) = some (.v (.int .i64 k)) ∧ loadA Try.prog 3 (A :: B :: C :: D :: p3 k g i :: r) (.bp 4 1) = some (.v (.int .i64 g)) ∧ loadA Try.prog 3 (A :: B :: C :: D :: p3 k g i :: r) (.bp 4 2) = some (.v (.int .i64 i)) := ⟨by kernel_rfl, by kernel_rfl, by kernel_rfl⟩

theorem tells_ev (a b c g i : Int) (hi : -9223372036854775808 ≤ i ∧ i < 2 ^ 63) : cf (evFn cx0 ext0 100) 5 [gV a b c, .v (.int .i64 g), .v (.int .i64 i)] = some (.v (.bool true)) := by
  have hw := works_at 99 (by omega)
  have hb := box_g [] a b c
  have hl := fun r => ld_g a b c r
  have c1 : cf (evFn cx0 ext0 99) 16 [gV a b c, .v (.int .i64 g)] = _ := Head_ev 95 a b c g
  have c2 : cf (evFn cx0 ext0 99) 17 [gV a b c, .v (.int .i64 g)] = _ := rHead_ev 95 a b c g
  have c3 : cf (evFn cx0 ext0 99) 18 [gV a b c, .v (.int .i64 g)] = _ := Maps_ev 95 a b c g
  have c4 : cf (evFn cx0 ext0 99) 19 [gV a b c, .v (.int .i64 g)] = _ := rMaps_ev 95 a b c g
  have c5 : cf (evFn cx0 ext0 99) 14 [gV a b c, .v (.int .i64 i)] = _ := Inode_ev 95 a b c i hi.2 hi.1
  have c6 : cf (evFn cx0 ext0 99) 15 [gV a b c, .v (.int .i64 i)] = _ := rInode_ev 95 a b c i hi.2 hi.1
  have c7 : cf (evFn cx0 ext0 99) 20 [gV a b c, .v (.int .i64 g), .v (.int .i64 i)] = _ := Data_ev 95 a b c g i
  have c8 : cf (evFn cx0 ext0 99) 21 [gV a b c, .v (.int .i64 g), .v (.int .i64 i)] = _ := rData_ev 95 a b c g i
  have c9 : cf (evFn cx0 ext0 99) 22 [gV a b c, .v (.int .i64 i)] = _ := Where_ev 95 a b c i
  have c10 : cf (evFn cx0 ext0 99) 23 [gV a b c, .v (.int .i64 i)] = _ := rWhere_ev 95 a b c i
  have d1 : cf (evFn cx0 ext0 99) 7 [gV a b c] = _ := Check_ev 97 a b c
  have d2 : cf (evFn cx0 ext0 99) 8 [gV a b c] = _ := rCheck_ev 98 a b c
  have d3 : cf (evFn cx0 ext0 99) 9 [gV a b c] = _ := Total_ev 96 a b c
  have d4 : cf (evFn cx0 ext0 99) 10 [gV a b c] = _ := rTotal_ev 96 a b c
  have d5 : cf (evFn cx0 ext0 99) 11 [gV a b c] = _ := Inodes_ev 96 a b c
  have d6 : cf (evFn cx0 ext0 99) 12 [gV a b c] = _ := rInodes_ev 96 a b c
  obtain ⟨n1, e1, h1⟩ := gIn_form a b c g 0
  obtain ⟨n2, e2, h2⟩ := gIn_form a b c g 1
  obtain ⟨s, l, gg, x, e3, h3⟩ := gSlot_form a b c i
  obtain ⟨n4, e4, h4⟩ := gData_form a b c g i
  obtain ⟨k, pg, pi, e5, h5⟩ := gWhere_form a b c i
  rw [h1] at c1 c2
  rw [h2] at c3 c4
  rw [h3] at c5 c6
  rw [h4] at c7 c8
  rw [h5] at c9 c10
  unfold cf
  rw [E_l06_GeomTells]
  refine ends_cf (P := Try.prog) ?_
  unfold F_l06_GeomTells
  have stq := (And.intro (hw) (And.intro (hb) (And.intro (hl) (And.intro (frz_g) (And.intro (al_s) (And.intro (al_p) (And.intro (st_a) (And.intro (st_b) (And.intro (st_d3) (And.intro (st_d4) (And.intro (fa_s) (And.intro (fa_r) (And.intro (fa_q) (And.intro (fa_qr) (And.intro (l4a) (And.intro (l4b) (And.intro (l3c) (And.intro (l3d) (And.intro (c1) (And.intro (c2) (And.intro (c3) (And.intro (c4) (And.intro (c5) (And.intro (c6) (And.intro (c7) (And.intro (c8) (And.intro (c9) (And.intro (c10) (And.intro (d1) (And.intro (d2) (And.intro (d3) (And.intro (d4) (And.intro (d5) (d6))))))))))))))))))))))))))))))))))
  repeat first
    | ((with_reducible apply ends_bind); case h => first | (simp only [stp, stq]; first | done | rfl) | rfl)
    | ((with_reducible apply ends_t); case h => first | rfl | (simp only [stp, stq]; done))
    | ((with_reducible apply ends_f); case h => first | rfl | (simp only [stp, stq]; done))
  exact ends_some ⟨.inl rfl, _, rfl, rfl⟩
end Go.Sy
