/-
  Bits and numbers of bytes, in plain Lean. No conditions.
-/
import Derived.Test.YtmkdhgigghgieaaSyStep
namespace Go.Sy
namespace Num

/-! ## bits -/
def tb (x : UInt8) (m : Nat) : Bool := x.toBitVec.getLsbD m
def msk (m : Nat) : UInt8 := UInt8.ofBitVec (BitVec.twoPow 8 m)
def sb (x : UInt8) (m : Nat) (on : Bool) : UInt8 := if on then (x &&& ~~~ msk m) ||| msk m else x &&& ~~~ msk m

theorem fin8 {p : UInt8 → Nat → Prop} (h : ∀ (x : Fin 256) (m : Fin 8), p (UInt8.ofNat x.val) m.val) (x : UInt8) (m : Nat) (hm : m < 8) : p x m := by
  have := h ⟨x.toNat, UInt8.toNat_lt x⟩ ⟨m, hm⟩
  simpa using this

theorem msk_shl (m : Nat) (hm : m < 8) : IntKind.u8.wrap (1 * 2 ^ (min m IntKind.u8.bits)) = ((msk m).toNat : Int) := by
  have h : ∀ m : Fin 8, IntKind.u8.wrap (1 * 2 ^ (min m.val IntKind.u8.bits)) = ((msk m.val).toNat : Int) := by decide +kernel
  exact h ⟨m, hm⟩
theorem msk_pow (m : Nat) (hm : m < 8) : ((msk m).toNat : Int) = 2 ^ m := by
  have h : ∀ m : Fin 8, ((msk m.val).toNat : Int) = 2 ^ m.val := by decide +kernel
  exact h ⟨m, hm⟩
theorem and_msk (x : UInt8) (m : Nat) (hm : m < 8) : (((x &&& msk m).toNat : Int) != 0) = tb x m :=
  fin8 (p := fun x m => (((x &&& msk m).toNat : Int) != 0) = tb x m) (by decide +kernel) x m hm
theorem div_pow (x : UInt8) (m : Nat) (hm : m < 8) : (((x.toNat : Int).tdiv (2 ^ m)).tmod 2 == 1) = tb x m :=
  fin8 (p := fun x m => (((x.toNat : Int).tdiv (2 ^ m)).tmod 2 == 1) = tb x m) (by decide +kernel) x m hm
theorem shr_and (x : UInt8) (m : Nat) (hm : m < 8) : bitI .and .u8 ((x.toNat : Int).fdiv (2 ^ (min m IntKind.u8.bits))) 1 = if tb x m then 1 else 0 :=
  fin8 (p := fun x m => bitI .and .u8 ((x.toNat : Int).fdiv (2 ^ (min m IntKind.u8.bits))) 1 = if tb x m then 1 else 0) (by decide +kernel) x m hm
theorem add_msk (x : UInt8) (m : Nat) (hm : m < 8) (h : tb x m = false) : IntKind.u8.wrap ((x.toNat : Int) + IntKind.u8.wrap (2 ^ m)) = ((sb x m true).toNat : Int) :=
  fin8 (p := fun x m => tb x m = false → IntKind.u8.wrap ((x.toNat : Int) + IntKind.u8.wrap (2 ^ m)) = ((sb x m true).toNat : Int)) (by decide +kernel) x m hm h
theorem sub_msk (x : UInt8) (m : Nat) (hm : m < 8) (h : tb x m = true) : IntKind.u8.wrap ((x.toNat : Int) - IntKind.u8.wrap (2 ^ m)) = ((sb x m false).toNat : Int) :=
  fin8 (p := fun x m => tb x m = true → IntKind.u8.wrap ((x.toNat : Int) - IntKind.u8.wrap (2 ^ m)) = ((sb x m false).toNat : Int)) (by decide +kernel) x m hm h
theorem sb_same (x : UInt8) (m : Nat) (hm : m < 8) : sb x m (tb x m) = x :=
  fin8 (p := fun x m => sb x m (tb x m) = x) (by decide +kernel) x m hm

theorem tb_sb (x : UInt8) (m m' : Nat) (on : Bool) (hm' : m' < 8) : tb (sb x m on) m' = if m = m' then on else tb x m' := by
  unfold tb sb msk
  cases on
  · simp only [Bool.false_eq_true, if_false, UInt8.toBitVec_and, UInt8.toBitVec_not, BitVec.getLsbD_and, BitVec.getLsbD_not, BitVec.getLsbD_twoPow]
    by_cases h : m = m'
    · simp [h, hm']
    · simp [h, hm', Ne.symm h]
  · simp only [if_true, UInt8.toBitVec_or, UInt8.toBitVec_and, UInt8.toBitVec_not, BitVec.getLsbD_or, BitVec.getLsbD_and, BitVec.getLsbD_not, BitVec.getLsbD_twoPow]
    by_cases h : m = m'
    · simp [h, hm']
    · simp [h, hm', Ne.symm h]

/-- a bit of bytes -/
def bitAt (b : List UInt8) (i : Nat) : Bool := tb (b.getD (i / 8) 0) (i % 8)
/-- bytes with a bit set -/
def withB (b : List UInt8) (i : Nat) (on : Bool) : List UInt8 := b.set (i / 8) (sb (b.getD (i / 8) 0) (i % 8) on)
theorem withB_len (b : List UInt8) (i : Nat) (on : Bool) : (withB b i on).length = b.length := by simp [withB]

theorem bit_with (b : List UInt8) (i j : Nat) (on : Bool) (hi : i < 8 * b.length) : bitAt (withB b i on) j = if i = j then on else bitAt b j := by
  unfold bitAt withB
  by_cases h : i / 8 = j / 8
  · rw [← h]
    have hl : i / 8 < b.length := by omega
    rw [List.getD_eq_getElem?_getD, List.getElem?_set_self hl]
    simp only [Option.getD_some]
    rw [tb_sb _ _ _ _ (by omega)]
    by_cases h2 : i % 8 = j % 8
    · rw [if_pos h2, if_pos (by omega)]
    · rw [if_neg h2, if_neg (by omega)]
  · rw [if_neg (by omega)]
    rw [List.getD_eq_getElem?_getD, List.getElem?_set_ne h, List.getD_eq_getElem?_getD]

/-- how many bits are 1 of so many from a place on -/
def cnt (b : List UInt8) : Nat → Nat → Nat
  | _, 0 => 0
  | i, k + 1 => (if bitAt b i then 1 else 0) + cnt b (i + 1) k
/-- the first bit that is 0, of so many from a place on; else -1 -/
def fst0 (b : List UInt8) : Nat → Nat → Int
  | _, 0 => -1
  | i, k + 1 => if bitAt b i then fst0 b (i + 1) k else i

theorem cnt_le (b : List UInt8) : ∀ k i, cnt b i k ≤ k
  | 0, i => by simp [cnt]
  | k + 1, i => by
    have := cnt_le b k (i + 1)
    unfold cnt
    split <;> omega

theorem cnt_with (b : List UInt8) (i : Nat) (on : Bool) (hi : i < 8 * b.length) : ∀ k j, (cnt (withB b i on) j k : Int) = cnt b j k + (if j ≤ i ∧ i < j + k then (if on then 1 else 0) - (if bitAt b i then 1 else 0) else 0)
  | 0, j => by
    rw [if_neg (by omega)]
    simp [cnt]
  | k + 1, j => by
    have ih := cnt_with b i on hi k (j + 1)
    unfold cnt
    rw [bit_with b i j on hi, Int.natCast_add, ih, Int.natCast_add]
    by_cases h : i = j
    · subst h
      have e1 : ¬ (i + 1 ≤ i ∧ i < i + 1 + k) := by omega
      have e2 : (i ≤ i ∧ i < i + (k + 1)) := by omega
      simp only [e1, e2, if_true, if_false, and_self]
      cases on <;> cases bitAt b i <;> simp <;> omega
    · simp only [h, if_false]
      by_cases h2 : j ≤ i ∧ i < j + (k + 1)
      · have e1 : (j + 1 ≤ i ∧ i < j + 1 + k) := by omega
        simp only [e1, h2, if_true, and_self]
        omega
      · have e1 : ¬ (j + 1 ≤ i ∧ i < j + 1 + k) := by omega
        simp only [e1, h2, if_false]
        omega

theorem fst0_spec (b : List UInt8) : ∀ k i, (fst0 b i k = -1) ∨ ∃ j : Nat, fst0 b i k = j ∧ i ≤ j ∧ j < i + k ∧ bitAt b j = false ∧ ∀ l, i ≤ l → l < j → bitAt b l = true
  | 0, i => .inl rfl
  | k + 1, i => by
    unfold fst0
    by_cases h : bitAt b i = true
    · rw [if_pos h]
      rcases fst0_spec b k (i + 1) with h1 | ⟨j, h1, h2, h3, h4, h5⟩
      · exact .inl h1
      · refine .inr ⟨j, h1, by omega, by omega, h4, fun l hl hl2 => ?_⟩
        by_cases hl3 : l = i
        · subst hl3; exact h
        · exact h5 l (by omega) hl2
    · rw [if_neg h]
      exact .inr ⟨i, rfl, by omega, by omega, by simpa using h, fun l h1 h2 => by omega⟩

/-! ## numbers -/
/-- a number of bytes, the lowest first -/
def le : List UInt8 → Nat
  | [] => 0
  | x :: l => x.toNat + 256 * le l

theorem le_lt : ∀ l : List UInt8, le l < 256 ^ l.length
  | [] => by simp [le]
  | x :: l => by
    have h1 := le_lt l
    have h2 := UInt8.toNat_lt x
    rw [List.length_cons, Nat.pow_succ]
    unfold le
    omega

theorem le_snoc (l : List UInt8) (x : UInt8) : le (l ++ [x]) = le l + 256 ^ l.length * x.toNat := by
  induction l with
  | nil => simp [le]
  | cons y l ih =>
    rw [List.cons_append, le, ih, le, List.length_cons, Nat.pow_succ, Nat.mul_add]
    have : 256 * (256 ^ l.length * x.toNat) = 256 ^ l.length * 256 * x.toNat := by
      rw [Nat.mul_comm (256 ^ l.length) 256, Nat.mul_assoc]
    omega

theorem le_lt4 (l : List UInt8) (h : l.length ≤ 4) : le l < 4294967296 := by
  have h1 := le_lt l
  have h2 : 256 ^ l.length ≤ 256 ^ 4 := Nat.pow_le_pow_right (by omega) h
  omega

theorem or_nat (X Y : Nat) (hX : X < 4294967296) (hY : Y < 4294967296) : bitI .or .u32 (X : Int) (Y : Int) = ((X ||| Y : Nat) : Int) := by
  unfold bitI
  simp only [IntKind.bits]
  have h : (BitVec.ofInt 32 (X : Int) ||| BitVec.ofInt 32 (Y : Int)).toNat = X ||| Y := by
    rw [BitVec.toNat_or, BitVec.toNat_ofInt, BitVec.toNat_ofInt]
    congr 1 <;> omega
  refine (congrArg (fun z : Nat => IntKind.u32.wrap (z : Int)) h).trans ?_
  show IntKind.u32.wrap ((X ||| Y : Nat) : Int) = _
  rw [wrap32]
  have : X ||| Y < 2 ^ 32 := Nat.or_lt_two_pow hX hY
  omega

/-- one more byte -/
theorem or_byte (X k y : Nat) (hk : k < 4) (hX : X < 256 ^ k) (hy : y < 256) : bitI .or .u32 (X : Int) (IntKind.u32.wrap ((y : Int) * 2 ^ (min (8 * k) IntKind.u32.bits))) = ((X + 256 ^ k * y : Nat) : Int) := by
  have e : (256 : Nat) ^ k = 2 ^ (8 * k) := by rw [show (256 : Nat) = 2 ^ 8 from rfl, ← Nat.pow_mul]
  have m : min (8 * k) IntKind.u32.bits = 8 * k := by
    have : IntKind.u32.bits = 32 := rfl
    omega
  have b : 256 ^ k * y < 256 ^ k * 256 := Nat.mul_lt_mul_of_pos_left hy (by rw [e]; exact Nat.two_pow_pos _)
  have b2 : 256 ^ k * 256 ≤ 4294967296 := by
    rw [← Nat.pow_succ]
    have : 256 ^ (k + 1) ≤ 256 ^ 4 := Nat.pow_le_pow_right (by omega) (by omega)
    omega
  have b3 : (256 : Nat) ^ k ≤ 256 ^ k * 256 := Nat.le_mul_of_pos_right _ (by omega)
  have w : IntKind.u32.wrap ((y : Int) * 2 ^ (min (8 * k) IntKind.u32.bits)) = ((256 ^ k * y : Nat) : Int) := by
    rw [m, wrap32]
    have : (y : Int) * 2 ^ (8 * k) = ((256 ^ k * y : Nat) : Int) := by
      rw [e, Int.natCast_mul, Int.natCast_pow, Int.mul_comm]
      rfl
    rw [this]
    omega
  rw [w, or_nat X _ (by omega) (by omega)]
  congr 1
  rw [e, Nat.or_comm, ← Nat.two_pow_add_eq_or_of_lt (by rw [← e]; exact hX), Nat.add_comm]
end Num
end Go.Sy
