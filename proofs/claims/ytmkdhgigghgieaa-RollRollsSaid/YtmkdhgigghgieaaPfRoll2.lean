/-
  Layer 15: one patch rolled over bytes.
-/
import Derived.Test.YtmkdhgigghgieaaPfRoll
namespace Go.Sy
open Go.Proofs Num Crc Seal

def pz : List AV := [.v (.int .i64 0), .v (.int .i64 0), .v (.int .i64 0), .v (.slice none 0 0), .v (.int .i64 0), .v (.slice none 0 0), .v (.int .i64 0), .v (.int .i64 0), .v (.bool false)]
theorem al_pz (bx : Bx) : allocA Try.prog bx 34 = some (.bp bx.length 0, bx ++ [pz]) := by kernel_rfl
theorem ld_ipc (bx : Bx) (o k : Nat) (p : List UInt8) : loadA Try.prog 34 bx (.ip (pc o k p) true) = some (.agg (pc o k p)) := by kernel_rfl
theorem ix_pc (o k : Nat) (p : List UInt8) : indexAddrA Try.prog 24 (.sl 1 (pc o k p) true) (.v (.int .i64 0)) = some (.ip (pc o k p) true) := by kernel_rfl
theorem len_pc (o k : Nat) (p : List UInt8) : lenA Try.prog 24 (.sl 1 (pc o k p) true) = some (.v (.int .i64 1)) := by kernel_rfl
theorem st_pc (A B C : List AV) (o k : Nat) (p : List UInt8) (r : Bx) : stA Try.prog 34 (A :: B :: C :: pz :: r) (.bp 3 0) (.agg (pc o k p)) = some (.v undef, A :: B :: C :: pc o k p :: r) := by kernel_rfl
theorem ld_pc3 (A B C : List AV) (o k : Nat) (p : List UInt8) (r : Bx) : loadA Try.prog 34 (A :: B :: C :: pc o k p :: r) (.bp 3 0) = some (.agg (pc o k p)) ∧ loadA Try.prog 3 (A :: B :: C :: pc o k p :: r) (.bp 3 0) = some (.v (.int .i64 0)) := ⟨by kernel_rfl, by kernel_rfl⟩
theorem frz_pcs (bx : Bx) (d o k : Nat) (p : List UInt8) : (pc o k p).map (frz bx true (d + 1)) = pc o k p := by
  show [AV.v (.int .i64 0), .v (.int .i64 0), .v (.int .i64 o), frz bx true (d + 1) (byt true p), .v (.int .i64 k), .v (.slice none 0 0), .v (.int .i64 0), .v (.int .i64 0), .v (.bool false)] = _
  rw [frz_byt]
  rfl
theorem frz_pc (bx : Bx) (o k : Nat) (p : List UInt8) : frz bx true 6 (.agg (pc o k p)) = .agg (pc o k p) := by
  show AV.agg ((pc o k p).map (frz bx true 5)) = _
  rw [frz_pcs]
theorem frz_spc (bx : Bx) (o k : Nat) (p : List UInt8) : frz bx true 6 (.sl 1 (pc o k p) true) = .sl 1 (pc o k p) true := by
  show AV.sl 1 ((pc o k p).map (frz bx true 5)) true = _
  rw [frz_pcs]
theorem frz_fn0 (bx : Bx) (f : Nat) : frz bx true 6 (.fn f [] []) = .fn f [] [] := rfl
theorem yes_ev (m : Nat) (x : AV) : cf (evFn cx0 ext0 (m + 1)) 28 [x] = some (.v (.bool true)) := by
  unfold cf
  rw [E_roll_Now_1]
  refine ends_cf (P := Try.prog) ?_
  unfold F_roll_Now_1
  exact ends_some ⟨.inl rfl, _, rfl, rfl⟩

theorem over_ev {n : Nat} (hn : 470 ≤ n) (o k : Nat) (hk : mayK k) (b : List UInt8) (hb : b.length = 64) (p : List UInt8) (hp : o + p.length ≤ 54) {q : List UInt8} {t' e' : Int} (hg : gotV k b = .tup [.agg (u8l q), .v (.int .u32 t'), .v (.int .i64 e')]) (hq : q.length = 54) :
    cf (evFn cx0 ext0 n) 27 [.agg (u8l b), .sl 1 (pc o k p) true, .fn 28 [] []] = some (.tup [.agg (u8l (blk k (nxtT b) (lq o q p))), .v (.int .i64 0)]) := by
  obtain ⟨m, rfl⟩ : ∃ m, n = m + 2 := ⟨n - 2, by omega⟩
  have ht : nxtT b < 4294967296 := by
    unfold nxtT
    split <;> omega
  have c1 := Turn_ev (n := m + 1) (by omega) b hb
  have c2 := Lay_ev (n := m + 1) (by omega) o k hk b hb p hp (nxtT b) ht hg hq
  have c3 := fun x => yes_ev m x
  have hbl := blk_len k (nxtT b) (lq o q p) (lq_len o q p hq hp)
  have lB := lds hB
  have sB := sts hB
  have aB := al_a hB
  have zl6 : (zero 64).length = 64 := rfl
  have l1 := len_pc o k p
  unfold cf
  rw [E_roll_over]
  refine ends_cf (P := Try.prog) ?_
  unfold F_roll_over
  have stq := (And.intro (box_agg) (And.intro (aB) (And.intro (lB) (And.intro (sB) (And.intro (hb) (And.intro (zl6) (And.intro (frz_agg) (And.intro (c1) (l1)))))))))
  repeat first
    | ((with_reducible apply ends_bind); case h => first | (simp only [stp, stq]; first | done | rfl) | rfl)
    | ((with_reducible apply ends_t); case h => first | rfl | (simp only [stp, stq]; done))
    | ((with_reducible apply ends_f); case h => first | rfl | (simp only [stp, stq]; done))
  refine ends_loop (fun kk s => ∃ (j : Nat) (y17 y0 y1 y2 : AV) (d0 d1 d2 : List AV), s = ⟨[(19, .v (.int .i64 j)), (18, .v (.int .i64 1)), (17, y17), (9, .v (.int .u32 (nxtT b))), (8, .bp 2 0), (7, .v (.int .i64 0)), (6, .bp 1 0), (3, .bp 0 0), (0, y0), (1, y1), (2, y2)], [d0, d1, d2]⟩ ∧ d1 = u8l (zero 64) ∧
    ((kk = 1 ∧ j = 0 ∧ d2 = u8l b ∧ y17 = .sl 1 (pc o k p) true ∧ y2 = .fn 28 [] []) ∨ (kk = 0 ∧ j = 1 ∧ d2 = u8l (blk k (nxtT b) (lq o q p))))) 1 (by omega) ⟨0, _, _, _, _, _, _, _, rfl, rfl, .inl ⟨rfl, rfl, rfl, rfl, rfl⟩⟩ ?_
  rintro kk s ⟨j, y17, y0, y1, y2, d0, d1, d2, rfl, rfl, ⟨rfl, rfl, rfl, rfl, rfl⟩ | ⟨rfl, rfl, rfl⟩⟩
  · refine L_roll_over_0_lit ?_
    unfold B_roll_over_0
    have g0 : decide (((0 : Nat) : Int) < 1) = true := by decide
    have i0 : indexAddrA Try.prog 24 (.sl 1 (pc o k p) true) (.v (.int .i64 ((0 : Nat) : Int))) = some (.ip (pc o k p) true) := ix_pc o k p
    have q0 := fun bx => ld_ipc bx o k p
    have e3 : IntKind.i64.wrap (((0 : Nat) : Int) + 1) = ((1 : Nat) : Int) := rfl
    have z : ((0 : Int) != 0) = false := rfl
    have s4 := st_a hB (P := Try.prog) (bx := [d0, u8l (zero 64), u8l b, pc o k p, u8l (zero 64)]) (k := 4) (b := zero 64) (c := blk k (nxtT b) (lq o q p)) rfl zl6 hbl
    simp only [List.set_cons_succ, List.set_cons_zero] at s4
    have stq := (And.intro (g0) (And.intro (i0) (And.intro (q0) (And.intro (al_pz) (And.intro (st_pc) (And.intro (ld_pc3) (And.intro (fa_pc) (And.intro (c3) (And.intro (n_tf) (And.intro (lB) (And.intro (sB) (And.intro (hb) (And.intro (hbl) (And.intro (zl6) (And.intro (frz_agg) (And.intro (frz_pc) (And.intro (c2) (And.intro (aB) (And.intro (s4) (And.intro (z) (e3)))))))))))))))))))))
    repeat first
      | ((with_reducible apply ends_bind); case h => first | (simp only [stp, stq]; first | done | rfl) | rfl)
      | ((with_reducible apply ends_t); case h => first | rfl | (simp only [stp, stq]; done))
      | ((with_reducible apply ends_f); case h => first | rfl | (simp only [stp, stq]; done))
    exact ends_some (.inl ⟨rfl, 0, by omega, 1, _, _, _, _, _, _, _, by first | rfl | (rw [← e3]; rfl), u8l_keep _ _, .inr ⟨rfl, rfl, u8l_keep _ _⟩⟩)
  · refine L_roll_over_0_lit ?_
    unfold B_roll_over_0
    have g0 : decide (((1 : Nat) : Int) < 1) = false := by decide
    have stq := (g0)
    repeat first
      | ((with_reducible apply ends_bind); case h => first | (simp only [stp, stq]; first | done | rfl) | rfl)
      | ((with_reducible apply ends_t); case h => first | rfl | (simp only [stp, stq]; done))
      | ((with_reducible apply ends_f); case h => first | rfl | (simp only [stp, stq]; done))
    refine ends_some (.inr (.inl ⟨0, rfl, X_roll_over_0_0_lit ?_⟩))
    unfold X_roll_over_0_0
    have stq := (And.intro (lB) (And.intro (sB) (And.intro (hbl) (zl6))))
    repeat first
      | ((with_reducible apply ends_bind); case h => first | (simp only [stp, stq]; first | done | rfl) | rfl)
      | ((with_reducible apply ends_t); case h => first | rfl | (simp only [stp, stq]; done))
      | ((with_reducible apply ends_f); case h => first | rfl | (simp only [stp, stq]; done))
    exact ends_some (retq_ct (ld_a hB (b := blk k (nxtT b) (lq o q p)) rfl hbl) (frz_agg _ _ _ _))
theorem Now_ev {n : Nat} (hn : 480 ≤ n) (o k : Nat) (hk : mayK k) (b : List UInt8) (hb : b.length = 64) (p : List UInt8) (hp : o + p.length ≤ 54) {q : List UInt8} {t' e' : Int} (hg : gotV k b = .tup [.agg (u8l q), .v (.int .u32 t'), .v (.int .i64 e')]) (hq : q.length = 54) :
    cf (evFn cx0 ext0 n) 10 [.agg (u8l b), .sl 1 (pc o k p) true] = some (.tup [.agg (u8l (blk k (nxtT b) (lq o q p))), .v (.int .i64 0)]) := by
  obtain ⟨m, rfl⟩ : ∃ m, n = m + 1 := ⟨n - 1, by omega⟩
  have c1 := over_ev (n := m) (by omega) o k hk b hb p hp hg hq
  have hbl := blk_len k (nxtT b) (lq o q p) (lq_len o q p hq hp)
  have lB := lds hB
  have sB := sts hB
  have aB := al_a hB
  have zl6 : (zero 64).length = 64 := rfl
  unfold cf
  rw [E_roll_Now]
  refine ends_cf (P := Try.prog) ?_
  unfold F_roll_Now
  have stq := (And.intro (box_agg) (And.intro (aB) (And.intro (lB) (And.intro (sB) (And.intro (hb) (And.intro (hbl) (And.intro (zl6) (And.intro (frz_agg) (And.intro (frz_spc) (And.intro (frz_fn0) (c1)))))))))))
  repeat first
    | ((with_reducible apply ends_bind); case h => first | (simp only [stp, stq]; first | done | rfl) | rfl)
    | ((with_reducible apply ends_t); case h => first | rfl | (simp only [stp, stq]; done))
    | ((with_reducible apply ends_f); case h => first | rfl | (simp only [stp, stq]; done))
  exact ends_some (retq_ct (ld_a hB (b := blk k (nxtT b) (lq o q p)) rfl hbl) (frz_agg _ _ _ _))
end Go.Sy
