/-
  Layer 06: slices of ints; what GeomOnce's steps read as.
-/
import Derived.Test.YtkpoapobhgleaaaLwGeom2
import Derived.Test.YtkpoapobhgleaaaPlOnce
namespace Go.Sy
open Go.Proofs

theorem ix_il (k n i : Nat) (h : i < n) : indexAddrA Try.prog 48 (.bsl k 0 n 1) (.v (.int .i64 i)) = some (.bp k i) := by
  have e : indexAddrA Try.prog 48 (.bsl k 0 n 1) (.v (.int .i64 i)) = (idxI n 0 1 (.v (.int .i64 i))).map fun o => .bp k o := by kernel_rfl
  rw [e]
  unfold idxI
  simp only
  rw [if_pos ⟨by omega, by omega⟩]
  simp
theorem ld_seen {P : Nat → Nat → Bool} {S n d : Nat} {v : Int} (h : (seen P S n)[d]? = some v) (A : List AV) (r : Bx) : loadA Try.prog 3 (A :: il (seen P S n) :: r) (.bp 1 d) = some (.v (.int .i64 v)) := by
  have e : loadA Try.prog 3 (A :: il (seen P S n) :: r) (.bp 1 d) = (il (seen P S n))[d]? := by kernel_rfl
  rw [e, il_get, h]
  rfl
theorem st_il (l : List Int) (d : Nat) (y : Int) (h : d < l.length) (A : List AV) (r : Bx) : stA Try.prog 3 (A :: il l :: r) (.bp 1 d) (.v (.int .i64 y)) = some (.v undef, A :: il (l.set d y) :: r) := by
  have hs : storeA Try.prog 3 (A :: il l :: r) (.bp 1 d) (.v (.int .i64 y)) = some (A :: il (l.set d y) :: r) := by
    unfold storeA
    have e : szA Try.prog 3 = some 1 := by kernel_rfl
    simp only [e, List.getElem?_cons_succ, List.getElem?_cons_zero, Option.bind_some]
    rw [if_pos (by refine ⟨rfl, rfl, ?_⟩; rw [il_len]; omega)]
    show some (A :: (il l).set d (.v (.int .i64 y)) :: r) = _
    rw [il_set]
  unfold stA
  rw [hs]
  rfl
theorem st_seen {P P' : Nat → Nat → Bool} {S n d : Nat} {y : Int} (h : (seen P S n).set d y = seen P' S n) (hd : d < n) (A : List AV) (r : Bx) : stA Try.prog 3 (A :: il (seen P S n) :: r) (.bp 1 d) (.v (.int .i64 y)) = some (.v undef, A :: il (seen P' S n) :: r) := by
  rw [st_il _ _ _ (by rw [seen_len]; exact hd), h]
theorem mk_il (bx : Bx) (n : Nat) (h : n ≤ 100000) : makeSliceA Try.prog bx 48 (.v (.int .i64 n)) (.v (.int .i64 n)) = some (.bsl bx.length 0 n 1, bx ++ [il (List.replicate n 0)]) := by
  have e : makeSliceA Try.prog bx 48 (.v (.int .i64 n)) (.v (.int .i64 n)) = if isSl Try.prog 48 ∧ (n : Int) = n ∧ 0 ≤ (n : Int) then
      (zerosA Try.prog 3 (n : Int).toNat).bind fun z => if 8 * (n : Int) ≤ 2 ^ 48 ∧ (n : Int) < 2 ^ 63 ∧ 0 < 1 then some (newBox bx (n : Int).toNat 1 z) else none else none := by kernel_rfl
  have z : zerosA Try.prog 3 n = some (il (List.replicate n 0)) := by
    have h1 : zerosA Try.prog 3 n = some (List.replicate n [AV.v (.int .i64 0)]).flatten := by kernel_rfl
    rw [h1]
    congr 1
    unfold il
    rw [List.map_replicate]
    clear h1 e h
    induction n with
    | zero => rfl
    | succ n ih => rw [List.replicate_succ, List.flatten_cons, ih, List.replicate_succ]; rfl
  rw [e, if_pos ⟨by kernel_rfl, rfl, by omega⟩, Int.toNat_natCast, z]
  simp only [Option.bind_some]
  rw [if_pos ⟨by omega, by omega, by omega⟩]
  rfl
theorem len_il (k n : Nat) : lenA Try.prog 48 (.bsl k 0 n 1) = some (.v (.int .i64 n)) := by kernel_rfl

theorem b_p2 (x y : Int) : buildA Try.prog 41 [(0, .v (.int .i64 x)), (1, .v (.int .i64 y))] = some (pV x y 0) := by kernel_rfl
theorem b_p3 (x y z : Int) : buildA Try.prog 41 [(0, .v (.int .i64 x)), (1, .v (.int .i64 y)), (2, .v (.int .i64 z))] = some (pV x y z) := by kernel_rfl
theorem ne_p (x y z : Int) : binA Try.prog .neq 41 (pV x y z) (pV x y z) = some (.v (.bool false)) := by
  have : binA Try.prog .neq 41 (pV x y z) (pV x y z) = some (.v (.bool (!(x == x && (y == y && (z == z && true)))))) := by kernel_rfl
  rw [this]
  simp
theorem ld_p2r (A B : List AV) (k g i : Int) (r : Bx) : loadA Try.prog 41 (A :: B :: p3 k g i :: r) (.bp 2 0) = some (pV k g i) := by kernel_rfl
theorem ld_p3r (A B C : List AV) (k g i : Int) (r : Bx) : loadA Try.prog 41 (A :: B :: C :: p3 k g i :: r) (.bp 3 0) = some (pV k g i) := by kernel_rfl
theorem b_g (x y z : Int) : buildA Try.prog 23 [(0, .v (.int .i64 x)), (1, .v (.int .i64 y)), (2, .v (.int .i64 z))] = some (gV x y z) := by kernel_rfl
theorem al_gg (bx : Bx) : allocA Try.prog bx 23 = some (.bp bx.length 0, bx ++ [p3 0 0 0]) := by kernel_rfl
theorem st_gg (a b c a' b' c' : Int) : stA Try.prog 23 [p3 a b c] (.bp 0 0) (gV a' b' c') = some (.v undef, [p3 a' b' c']) := by kernel_rfl
theorem p3_keep (p : Nat → Bool) (a b c : Int) : (p3 a b c).map (AV.keep p) = p3 a b c := rfl

/-! ## stages -/
def pA (b g q t : Nat) : Bool := decide (q < g) && (decide (t < 2) || decide (2 + b ≤ t))
def pB (b g i q t : Nat) : Bool := pA b g q t || (decide (q = g) && (decide (t < 2) || (decide (2 + b ≤ t) && decide (t < 2 + b + i))))
def pH (b g q t : Nat) : Bool := pA b g q t || (decide (q = g) && decide (t = 0))
def pC (b m q t : Nat) : Bool := (decide (t < 2) || decide (2 + b ≤ t)) || decide (q * (3 * b) + 3 * (t - 2) < m)

theorem pH_of (b g q t : Nat) : pH b g q t = (pA b g q t || (decide (q = g) && decide (t = 0))) := rfl
theorem pB0_of (b g q t : Nat) : pB b g 0 q t = (pH b g q t || (decide (q = g) && decide (t = 1))) := by
  unfold pB pH
  rw [Bool.or_assoc, ← Bool.and_or_distrib_left]
  congr 2
  rw [Bool.eq_iff_iff]
  simp
  omega
theorem pBs_of (b g i q t : Nat) : pB b g (i + 1) q t = (pB b g i q t || (decide (q = g) && decide (t = 2 + b + i))) := by
  unfold pB
  rw [Bool.or_assoc, ← Bool.and_or_distrib_left]
  congr 2
  rw [Bool.eq_iff_iff]
  simp
  omega
theorem pB_end (b c g q t : Nat) (h : t < 2 + b + c) : pB b g c q t = pA b (g + 1) q t := by
  unfold pB pA
  rw [Bool.eq_iff_iff]
  simp
  omega
theorem pC_start (b a q t : Nat) (h : q < a) : pA b a q t = pC b 0 q t := by
  unfold pA pC
  rw [Bool.eq_iff_iff]
  simp
  omega
theorem pC_end (b a q t : Nat) (h : q < a) : pC b (3 * a * b) q t = true := by
  unfold pC
  simp only [Bool.or_eq_true, decide_eq_true_eq]
  by_cases h1 : t < 2
  · exact .inl (.inl h1)
  · by_cases h2 : 2 + b ≤ t
    · exact .inl (.inr h2)
    · right
      have : (q + 1) * b ≤ a * b := Nat.mul_le_mul_right b h
      rw [Nat.add_mul, Nat.one_mul] at this
      rw [show q * (3 * b) = 3 * (q * b) by rw [Nat.mul_left_comm], show 3 * a * b = 3 * (a * b) by rw [Nat.mul_assoc]]
      omega
theorem pC_no (b m q t : Nat) (h : m % (3 * b) % 3 ≠ 0) : pC b (m + 1) q t = pC b m q t := by
  have hm : m % 3 ≠ 0 := by rw [Nat.mod_mul_right_mod] at h; exact h
  unfold pC
  rw [Bool.eq_iff_iff]
  simp only [Bool.or_eq_true, decide_eq_true_eq]
  rw [show q * (3 * b) = 3 * (q * b) by rw [Nat.mul_left_comm]]
  omega
theorem pC_yes (b m q t : Nat) (hb : 0 < b) (h : m % (3 * b) % 3 = 0) : pC b (m + 1) q t = (pC b m q t || (decide (q = m / (3 * b)) && decide (t = 2 + m % (3 * b) / 3))) := by
  have hd := Nat.div_add_mod m (3 * b)
  have hlt : m % (3 * b) < 3 * b := Nat.mod_lt _ (by omega)
  unfold pC
  rw [Bool.eq_iff_iff]
  simp only [Bool.or_eq_true, Bool.and_eq_true, decide_eq_true_eq]
  constructor
  · rintro (h1 | h1)
    · exact .inl (.inl h1)
    · by_cases h2 : q * (3 * b) + 3 * (t - 2) < m
      · exact .inl (.inr h2)
      · have e : q * (3 * b) + 3 * (t - 2) = m := by omega
        by_cases h3 : t < 2 ∨ 2 + b ≤ t
        · exact .inl (.inl h3)
        · right
          have h4 : 3 * (t - 2) < 3 * b := by omega
          have h5 : m / (3 * b) = q := by
            rw [← e, Nat.add_comm, Nat.add_mul_div_right _ _ (by omega), Nat.div_eq_of_lt h4, Nat.zero_add]
          have h6 : m % (3 * b) = 3 * (t - 2) := by
            rw [← e, Nat.add_comm, Nat.add_mul_mod_self_right, Nat.mod_eq_of_lt h4]
          rw [h5, h6]
          omega
  · rintro ((h1 | h1) | ⟨h1, h2⟩)
    · exact .inl h1
    · right; omega
    · right
      subst h1 h2
      rw [Nat.mul_comm] at hd
      omega
end Go.Sy
