/-
  Layer 8: a disk's shape is found, on both sides.
-/
import Derived.Test.YtdcngbkcemaklaaPfSup2
namespace Go.Sy
open Go.Proofs Num Crc Seal

/-- a disk's sectors, so many, all their bytes -/
abbrev bll (f : Bool) (n : Nat) (b : List UInt8) : AV := .sl n (u8l b) f
def bk (b : List UInt8) (i : Nat) : List UInt8 := (b.drop (i * 64)).take 64
theorem bk_len {b : List UInt8} {i n : Nat} (h : i < n) (hb : b.length = n * 64) : (bk b i).length = 64 := by
  unfold bk
  rw [List.length_take, List.length_drop]
  omega
theorem bk_take {b : List UInt8} {i m : Nat} (h : i < m) : ((b.take (m * 64)).drop (i * 64)).take 64 = bk b i := by
  unfold bk
  rw [List.drop_take, List.take_take]
  congr 1
  omega
theorem ln_bl (n : Nat) (l : List AV) (f : Bool) : lenA Try.prog 39 (.sl n l f) = some (.v (.int .i64 n)) := by kernel_rfl
theorem el_bl : isSl Try.prog 39 = true ∧ elA Try.prog 39 = some 32 ∧ szA Try.prog 32 = some 64 := ⟨by kernel_rfl, by kernel_rfl, by kernel_rfl⟩
theorem sl2_bl (bx : Bx) (f : Bool) (n : Nat) (b : List UInt8) (hn : 2 ≤ n) (k : IntKind) : sliceA Try.prog bx 39 (.sl n (u8l b) f) none (some (.v (.int k 2))) none = some (.sl 2 (u8l (b.take 128)) f) := by
  unfold sliceA
  simp only [el_bl.1, if_true, el_bl.2.1, el_bl.2.2, Option.bind_some, hiA, loA, bndA]
  rw [if_pos ⟨by omega, by omega⟩]
  simp [u8l_take]
theorem ix_bl (f : Bool) (n : Nat) (b : List UInt8) (hb : b.length = n * 64) (k : IntKind) (i : Nat) (hi : i < n) : indexAddrA Try.prog 39 (.sl n (u8l b) f) (.v (.int k i)) = some (.ip (u8l (b.drop (i * 64))) f) := by
  unfold indexAddrA
  simp only [el_bl.1, if_true, el_bl.2.1, el_bl.2.2, Option.bind_some, idxI]
  rw [if_pos ⟨by omega, by omega⟩]
  simp only [Option.bind_some, u8l_len]
  rw [if_pos (by omega), u8l_drop]
  simp
theorem ld_bl (bx : Bx) (f : Bool) (b : List UInt8) (i n : Nat) (hb : b.length = n * 64) (hi : i < n) : loadA Try.prog 32 bx (.ip (u8l (b.drop (i * 64))) f) = some (.agg (u8l (bk b i))) := by
  rw [ld_ip hB (by rw [List.length_drop]; omega)]
  rfl
theorem frz_bll (bx : Bx) (d n : Nat) (f : Bool) (b : List UInt8) : frz bx true (d + 1) (bll f n b) = bll f n b := by cases f <;> rfl
def okS (x : List UInt8) : Prop := (kd x : Int) = 1 ∧ right x = true
instance (x : List UInt8) : Decidable (okS x) := by unfold okS; infer_instance
theorem got1 (x : List UInt8) : gotV 1 x = if okS x then .tup [.agg (u8l (ld x)), .v (.int .u32 (tn x)), .v (.int .i64 0)] else .tup [.agg (u8l (zero 54)), .v (.int .u32 0), .v (.int .i64 21)] := by
  unfold gotV okS
  rw [if_pos (by decide)]
abbrev w0 (x : List UInt8) : Int := (wd (ld x) 0 : Nat)
abbrev w1 (x : List UInt8) : Int := (wd (ld x) 1 : Nat)
abbrev w2 (x : List UInt8) : Int := (wd (ld x) 2 : Nat)
def hitS (x : List UInt8) (n : Nat) : Prop := okS x ∧ okG (ld x) ∧ gTot (w0 x) (w1 x) (w2 x) = n
instance (x : List UInt8) (n : Nat) : Decidable (hitS x n) := by unfold hitS; infer_instance
def fnd (b : List UInt8) (n : Nat) : Option Nat := if 2 ≤ n then (if hitS (bk b 0) n then some 0 else if hitS (bk b 1) n then some 1 else none) else none
def fndV (b : List UInt8) (n : Nat) : AV := match fnd b n with
  | some i => .tup [gV (w0 (bk b i)) (w1 (bk b i)) (w2 (bk b i)), .v (.int .i64 i), .v (.int .i64 0)]
  | none => .tup [gV 0 0 0, .v (.int .i64 0), .v (.int .i64 22)]
theorem ld_len {x : List UInt8} (hx : x.length = 64) : (ld x).length = 54 := by
  unfold ld
  rw [List.length_take]
  omega
theorem sg0 (x y z x' y' z' : Int) (r : Bx) : stA Try.prog 23 (gC x y z :: r) (.bp 0 0) (gV x' y' z') = some (.v undef, gC x' y' z' :: r) := by kernel_rfl
theorem lg0 (x y z : Int) (r : Bx) : loadA Try.prog 23 (gC x y z :: r) (.bp 0 0) = some (gV x y z) := by kernel_rfl
theorem sg1 (A : List AV) (x y z x' y' z' : Int) (r : Bx) : stA Try.prog 23 (A :: gC x y z :: r) (.bp 1 0) (gV x' y' z') = some (.v undef, A :: gC x' y' z' :: r) := by kernel_rfl
theorem lg1' (A : List AV) (x y z : Int) (r : Bx) : loadA Try.prog 23 (A :: gC x y z :: r) (.bp 1 0) = some (gV x y z) := by kernel_rfl
theorem sg3 (A B C : List AV) (x y z x' y' z' : Int) (r : Bx) : stA Try.prog 23 (A :: B :: C :: gC x y z :: r) (.bp 3 0) (gV x' y' z') = some (.v undef, A :: B :: C :: gC x' y' z' :: r) := by kernel_rfl
theorem lg3 (A B C : List AV) (x y z : Int) (r : Bx) : loadA Try.prog 23 (A :: B :: C :: gC x y z :: r) (.bp 3 0) = some (gV x y z) := by kernel_rfl
theorem n_tf' : (!true) = false := rfl
theorem n_ft' : (!false) = true := rfl
set_option maxRecDepth 100000 in
theorem Find_ev {k : Nat} (hk : 500 ≤ k) (f : Bool) (n : Nat) (b : List UInt8) (hb : b.length = n * 64) : cf (evFn cx0 ext0 k) 15 [bll f n b] = some (fndV b n) := by
  obtain ⟨m, rfl⟩ : ∃ m, k = m + 4 := ⟨k - 4, by omega⟩
  have lz := lg0
  have sz := sg0
  have aL := al_a hL (P := Try.prog)
  have aB := al_a hB (P := Try.prog)
  have lL := lds hL (P := Try.prog)
  have lB := lds hB (P := Try.prog)
  have sL := sts hL (P := Try.prog)
  have sB := sts hB (P := Try.prog)
  have zl : (zero 54).length = 54 := rfl
  have zl6 : (zero 64).length = 64 := rfl
  have zl' : (List.replicate 54 (0 : UInt8)).length = 54 := rfl
  have zl6' : (List.replicate 64 (0 : UInt8)).length = 64 := rfl
  unfold cf
  rw [E_super_Find]
  refine ends_cf (P := Try.prog) ?_
  unfold F_super_Find
  by_cases hn : 2 ≤ n
  · have g0 : decide ((n : Int) < 2) = false := decide_eq_false (by omega)
    have s2 := fun bx => sl2_bl bx f n b hn .i64
    have hb2 : (b.take 128).length = 2 * 64 := by rw [List.length_take]; omega
    have stq := (And.intro (al_g) (And.intro (ln_bl) (And.intro (g0) (s2))))
    repeat first
      | ((with_reducible apply ends_bind); case h => first | (simp only [stp, stq]; first | done | rfl) | rfl)
      | ((with_reducible apply ends_t); case h => first | rfl | (simp only [stp, stq]; done))
      | ((with_reducible apply ends_f); case h => first | rfl | (simp only [stp, stq]; done))
    refine ends_loop (fun d s => ∃ (j : Nat) (y14 y4 y3 : AV) (d0 : List AV), s = ⟨[(19, .v (.int .i64 j)), (18, .v (.int .i64 (2 : Nat))), (17, .sl 2 (u8l (b.take 128)) f), (14, y14), (4, y4), (3, y3), (2, .bp 0 0), (0, bll f n b)], [d0]⟩ ∧ d0 = gC 0 0 0 ∧ j + d = 2 ∧ ∀ i, i < j → ¬ hitS (bk b i) n) 2 (by omega) ⟨0, _, _, _, _, rfl, rfl, by omega, by omega⟩ ?_
    rintro d s ⟨j, y14, y4, y3, d0, rfl, rfl, hd, hall⟩
    refine L_super_Find_0_lit ?_
    unfold B_super_Find_0
    by_cases hj : j < 2
    · have g1 : decide ((j : Int) < (2 : Nat)) = true := decide_eq_true (by omega)
      have i1 := ix_bl f 2 (b.take 128) hb2 .i64 j hj
      have l1 := fun bx => ld_bl bx f (b.take 128) j 2 hb2 hj
      rw [show bk (b.take 128) j = bk b j from bk_take (m := 2) hj] at l1
      have hx := bk_len (b := b) (i := j) (n := n) (by omega) hb
      have hfe : hitS (bk b j) n → fndV b n = .tup [gV (w0 (bk b j)) (w1 (bk b j)) (w2 (bk b j)), .v (.int .i64 j), .v (.int .i64 0)] := by
        intro hh
        unfold fndV fnd
        rw [if_pos hn]
        rcases (show j = 0 ∨ j = 1 by omega) with rfl | rfl
        · rw [if_pos hh]
        · rw [if_neg (hall 0 (by omega)), if_pos hh]
      have e3 : IntKind.i64.wrap ((j : Int) + 1) = ((j + 1 : Nat) : Int) := by rw [wrap64]; omega
      have next : ¬ hitS (bk b j) n → ∀ i, i < j + 1 → ¬ hitS (bk b i) n := fun h i hi => by
        by_cases e : i = j
        · subst e; exact h
        · exact hall i (by omega)
      generalize bk b j = x at *
      have c1 : cf (evFn cx0 ext0 (m + 3)) 31 [.v (.int .i64 1), .agg (u8l x)] = _ := Get_ev (by omega) 1 x hx
      rw [got1] at c1
      by_cases h1 : okS x
      · rw [if_pos h1] at c1
        have hl := ld_len hx
        have c2 := SGet_ev (k := m + 3) (by omega) (ld x) hl
        unfold getS at c2
        have z0 : ((0 : Int) != 0) = false := rfl
        by_cases h2 : okG (ld x)
        · rw [if_pos h2] at c2
          have c3 : cf (evFn cx0 ext0 (m + 3)) 20 [gV (w0 x) (w1 x) (w2 x)] = _ := Total_ev m (w0 x) (w1 x) (w2 x)
          have z1 : ((0 : Int) == 0) = true := rfl
          by_cases h3 : gTot (w0 x) (w1 x) (w2 x) = n
          · have hh : hitS x n := ⟨h1, h2, h3⟩
            have e4 : (gTot (w0 x) (w1 x) (w2 x) == (n : Int)) = true := by simpa using h3
            rw [hfe hh]
            have stq := (And.intro (g1) (And.intro (i1) (And.intro (l1) (And.intro (hx) (And.intro (hl) (And.intro (zl') (And.intro (zl6') (And.intro (aB) (And.intro (sB) (And.intro (lB) (And.intro (frz_agg) (And.intro (c1) (And.intro (aL) (And.intro (sL) (And.intro (lL) (And.intro (z0) (And.intro (c2) (And.intro (al_g) (And.intro (sg3) (And.intro (lg3) (And.intro (z1) (And.intro (frz_g) (And.intro (c3) (And.intro (ln_bl) (And.intro (e4) (sz))))))))))))))))))))))))))
            repeat first
              | ((with_reducible apply ends_bind); case h => first | (simp only [stp, stq]; first | done | rfl) | rfl)
              | ((with_reducible apply ends_t); case h => first | rfl | (simp only [stp, stq]; done))
              | ((with_reducible apply ends_f); case h => first | rfl | (simp only [stp, stq]; done))
            exact ends_some (.inr (.inr ⟨rfl, retq_ctt (lz _ _ _ _) (frz_g5 _ _ _ _ _)⟩))
          · have hh : ¬ hitS x n := fun h => h3 h.2.2
            have e4 : (gTot (w0 x) (w1 x) (w2 x) == (n : Int)) = false := by simpa using h3
            have stq := (And.intro (g1) (And.intro (i1) (And.intro (l1) (And.intro (hx) (And.intro (hl) (And.intro (zl') (And.intro (zl6') (And.intro (aB) (And.intro (sB) (And.intro (lB) (And.intro (frz_agg) (And.intro (c1) (And.intro (aL) (And.intro (sL) (And.intro (lL) (And.intro (z0) (And.intro (c2) (And.intro (al_g) (And.intro (sg3) (And.intro (lg3) (And.intro (z1) (And.intro (frz_g) (And.intro (c3) (And.intro (ln_bl) (And.intro (e4) (e3))))))))))))))))))))))))))
            repeat first
              | ((with_reducible apply ends_bind); case h => first | (simp only [stp, stq]; first | done | rfl) | rfl)
              | ((with_reducible apply ends_t); case h => first | rfl | (simp only [stp, stq]; done))
              | ((with_reducible apply ends_f); case h => first | rfl | (simp only [stp, stq]; done))
            exact ends_some (.inl ⟨rfl, d - 1, by omega, j + 1, _, _, _, _, by first | rfl | (rw [← e3]; rfl), rfl, by omega, next hh⟩)
        · have hh : ¬ hitS x n := fun h => h2 h.2.1
          rw [if_neg h2] at c2
          have z1 : ((22 : Int) == 0) = false := rfl
          have stq := (And.intro (g1) (And.intro (i1) (And.intro (l1) (And.intro (hx) (And.intro (hl) (And.intro (zl') (And.intro (zl6') (And.intro (aB) (And.intro (sB) (And.intro (lB) (And.intro (frz_agg) (And.intro (c1) (And.intro (aL) (And.intro (sL) (And.intro (lL) (And.intro (z0) (And.intro (c2) (And.intro (al_g) (And.intro (sg3) (And.intro (lg3) (And.intro (z1) (e3))))))))))))))))))))))
          repeat first
            | ((with_reducible apply ends_bind); case h => first | (simp only [stp, stq]; first | done | rfl) | rfl)
            | ((with_reducible apply ends_t); case h => first | rfl | (simp only [stp, stq]; done))
            | ((with_reducible apply ends_f); case h => first | rfl | (simp only [stp, stq]; done))
          exact ends_some (.inl ⟨rfl, d - 1, by omega, j + 1, _, _, _, _, by first | rfl | (rw [← e3]; rfl), rfl, by omega, next hh⟩)
      · have hh : ¬ hitS x n := fun h => h1 h.1
        rw [if_neg h1] at c1
        have z0 : ((21 : Int) != 0) = true := rfl
        have stq := (And.intro (g1) (And.intro (i1) (And.intro (l1) (And.intro (hx) (And.intro (zl) (And.intro (zl') (And.intro (zl6') (And.intro (aB) (And.intro (sB) (And.intro (lB) (And.intro (frz_agg) (And.intro (c1) (And.intro (aL) (And.intro (sL) (And.intro (z0) (e3))))))))))))))))
        repeat first
          | ((with_reducible apply ends_bind); case h => first | (simp only [stp, stq]; first | done | rfl) | rfl)
          | ((with_reducible apply ends_t); case h => first | rfl | (simp only [stp, stq]; done))
          | ((with_reducible apply ends_f); case h => first | rfl | (simp only [stp, stq]; done))
        exact ends_some (.inl ⟨rfl, d - 1, by omega, j + 1, _, _, _, _, by first | rfl | (rw [← e3]; rfl), rfl, by omega, next hh⟩)
    · have g1 : decide ((j : Int) < (2 : Nat)) = false := decide_eq_false (by omega)
      have hfe : fndV b n = .tup [gV 0 0 0, .v (.int .i64 0), .v (.int .i64 22)] := by
        unfold fndV fnd
        rw [if_pos hn, if_neg (hall 0 (by omega)), if_neg (hall 1 (by omega))]
      rw [hfe]
      have stq := (g1)
      repeat first
        | ((with_reducible apply ends_bind); case h => first | (simp only [stp, stq]; first | done | rfl) | rfl)
        | ((with_reducible apply ends_t); case h => first | rfl | (simp only [stp, stq]; done))
        | ((with_reducible apply ends_f); case h => first | rfl | (simp only [stp, stq]; done))
      refine ends_some (.inr (.inl ⟨0, rfl, X_super_Find_0_0_lit ?_⟩))
      unfold X_super_Find_0_0
      have stq := (And.intro (z_g) (sz))
      repeat first
        | ((with_reducible apply ends_bind); case h => first | (simp only [stp, stq]; first | done | rfl) | rfl)
        | ((with_reducible apply ends_t); case h => first | rfl | (simp only [stp, stq]; done))
        | ((with_reducible apply ends_f); case h => first | rfl | (simp only [stp, stq]; done))
      exact ends_some (retq_ctt (lz _ _ _ _) (frz_g5 _ _ _ _ _))
  · have g0 : decide ((n : Int) < 2) = true := decide_eq_true (by omega)
    have hfe : fndV b n = .tup [gV 0 0 0, .v (.int .i64 0), .v (.int .i64 22)] := by
      unfold fndV fnd
      rw [if_neg hn]
    rw [hfe]
    have stq := (And.intro (al_g) (And.intro (ln_bl) (And.intro (g0) (And.intro (z_g) (sz)))))
    repeat first
      | ((with_reducible apply ends_bind); case h => first | (simp only [stp, stq]; first | done | rfl) | rfl)
      | ((with_reducible apply ends_t); case h => first | rfl | (simp only [stp, stq]; done))
      | ((with_reducible apply ends_f); case h => first | rfl | (simp only [stp, stq]; done))
    exact ends_some (retq_ctt (lz _ _ _ _) (frz_g5 _ _ _ _ _))
end Go.Sy
