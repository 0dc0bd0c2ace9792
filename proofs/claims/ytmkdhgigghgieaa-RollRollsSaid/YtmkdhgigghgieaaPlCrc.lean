/-
  The sum's plain law: a register's steps are linear and let nothing be lost; so sums of parts are joined, and one byte that is turned turns the sum. No conditions.
-/
import Derived.Test.YtmkdhgigghgieaaSyStep
namespace Go.Sy
namespace Crc

/-- one step of a register -/
def st1 (r : BitVec 32) : BitVec 32 := (r >>> 1) ^^^ (if r.getLsbD 0 then 2197175160#32 else 0#32)
def stN : Nat → BitVec 32 → BitVec 32
  | 0, r => r
  | n + 1, r => stN n (st1 r)
def reg (r : BitVec 32) (b : List UInt8) : BitVec 32 := b.foldl (fun r x => stN 8 (r ^^^ x.toBitVec.setWidth 32)) r
/-- the sum -/
def sum (b : List UInt8) : BitVec 32 := ~~~ (reg 4294967295#32 b)

theorem st1_xor (a b : BitVec 32) : st1 (a ^^^ b) = st1 a ^^^ st1 b := by
  unfold st1
  rw [BitVec.getLsbD_xor, BitVec.ushiftRight_xor_distrib]
  cases a.getLsbD 0 <;> cases b.getLsbD 0 <;> simp <;> (apply BitVec.eq_of_getLsbD_eq; intro i hi; simp only [BitVec.getLsbD_xor]; cases (a >>> 1).getLsbD i <;> cases (b >>> 1).getLsbD i <;> cases (2197175160#32).getLsbD i <;> rfl)

theorem stN_xor (n : Nat) : ∀ a b : BitVec 32, stN n (a ^^^ b) = stN n a ^^^ stN n b := by
  induction n with
  | zero => intro a b; rfl
  | succ n ih => intro a b; simp only [stN, st1_xor, ih]

theorem stN_add (m n : Nat) : ∀ r, stN (m + n) r = stN n (stN m r) := by
  induction m with
  | zero => intro r; simp [stN]
  | succ m ih => intro r; rw [show m + 1 + n = (m + n) + 1 by omega]; simp only [stN, ih]

theorem st1_zero {c : BitVec 32} (h : st1 c = 0#32) : c = 0#32 := by
  unfold st1 at h
  have h31 : (c >>> 1).getLsbD 31 = false := by simp
  by_cases hc : c.getLsbD 0
  · rw [if_pos hc] at h
    have := congrArg (fun x => BitVec.getLsbD x 31) h
    simp only [BitVec.getLsbD_xor, h31] at this
    exact absurd this (by decide)
  · rw [if_neg hc] at h
    have h1 : c >>> 1 = 0#32 := by simpa using h
    apply BitVec.eq_of_getLsbD_eq
    intro i hi
    rcases i with _ | i
    · simpa using hc
    · have := congrArg (fun x => BitVec.getLsbD x i) h1
      simp only [BitVec.getLsbD_ushiftRight] at this
      rw [Nat.add_comm] at this
      simpa using this

theorem st1_inj {a b : BitVec 32} (h : st1 a = st1 b) : a = b := by
  have h1 : st1 (a ^^^ b) = 0#32 := by rw [st1_xor, h, BitVec.xor_self]
  have h2 := st1_zero h1
  exact BitVec.xor_eq_zero_iff.1 h2

theorem stN_inj (n : Nat) : ∀ {a b : BitVec 32}, stN n a = stN n b → a = b := by
  induction n with
  | zero => intro a b h; exact h
  | succ n ih => intro a b h; exact st1_inj (ih h)

theorem xor_right {a b c : BitVec 32} (h : a ^^^ c = b ^^^ c) : a = b := by
  have := congrArg (· ^^^ c) h
  simpa [BitVec.xor_assoc] using this

theorem xor_left {a b c : BitVec 32} (h : c ^^^ a = c ^^^ b) : a = b := by
  rw [BitVec.xor_comm c, BitVec.xor_comm c] at h
  exact xor_right h

theorem reg_append (r : BitVec 32) (a b : List UInt8) : reg r (a ++ b) = reg (reg r a) b := by simp [reg]
theorem reg_nil (r : BitVec 32) : reg r [] = r := rfl
theorem reg_cons (r : BitVec 32) (x : UInt8) (b : List UInt8) : reg r (x :: b) = reg (stN 8 (r ^^^ x.toBitVec.setWidth 32)) b := rfl

theorem reg_inj (b : List UInt8) : ∀ {a c : BitVec 32}, reg a b = reg c b → a = c := by
  induction b with
  | nil => intro a c h; exact h
  | cons x b ih => intro a c h; exact xor_right (stN_inj 8 (ih h))

theorem wide_inj {x y : UInt8} (h : x.toBitVec.setWidth 32 = y.toBitVec.setWidth 32) : x = y := by
  apply UInt8.toBitVec_inj.1
  apply BitVec.eq_of_toNat_eq
  have := congrArg BitVec.toNat h
  simp only [BitVec.toNat_setWidth] at this
  have h1 := x.toBitVec.isLt
  have h2 := y.toBitVec.isLt
  omega

/-- one byte turned -/
theorem reg_one (r : BitVec 32) (a b : List UInt8) (x y : UInt8) (h : reg r (a ++ x :: b) = reg r (a ++ y :: b)) : x = y := by
  rw [reg_append, reg_append, reg_cons, reg_cons] at h
  exact wide_inj (xor_left (stN_inj 8 (reg_inj b h)))

theorem not_inj {a b : BitVec 32} (h : ~~~ a = ~~~ b) : a = b := by
  have := congrArg (~~~ ·) h
  simpa using this

theorem sum_one (a b : List UInt8) (x y : UInt8) (h : sum (a ++ x :: b) = sum (a ++ y :: b)) : x = y := reg_one _ a b x y (not_inj h)

theorem reg_lin (b : List UInt8) : ∀ a c : BitVec 32, reg (a ^^^ c) b = stN (8 * b.length) a ^^^ reg c b := by
  induction b with
  | nil => intro a c; rfl
  | cons x b ih =>
    intro a c
    rw [reg_cons, reg_cons, BitVec.xor_assoc, stN_xor, ih, List.length_cons, show 8 * (b.length + 1) = 8 + 8 * b.length by omega, stN_add]

theorem sum_join (a b : List UInt8) : sum (a ++ b) = stN (8 * b.length) (sum a) ^^^ sum b := by
  unfold sum
  rw [reg_append]
  have h1 : reg (reg 4294967295#32 a) b = stN (8 * b.length) (~~~ reg 4294967295#32 a) ^^^ reg 4294967295#32 b := by
    rw [← reg_lin]
    congr 1
    apply BitVec.eq_of_getLsbD_eq
    intro i hi
    have : (4294967295#32).getLsbD i = true := by
      have : (4294967295#32) = BitVec.allOnes 32 := by decide
      rw [this, BitVec.getLsbD_allOnes]
      exact decide_eq_true hi
    simp only [BitVec.getLsbD_xor, BitVec.getLsbD_not, this, hi]
    cases (reg 4294967295#32 a).getLsbD i <;> rfl
  rw [h1]
  apply BitVec.eq_of_getLsbD_eq
  intro i hi
  simp only [BitVec.getLsbD_xor, BitVec.getLsbD_not, hi]
  cases (stN (8 * b.length) (~~~reg 4294967295#32 a)).getLsbD i <;> cases (reg 4294967295#32 b).getLsbD i <;> rfl

/-! ## as whole numbers -/
def i32 (r : BitVec 32) : Int := r.toNat
abbrev v32 (r : BitVec 32) : AV := .v (.int .u32 (i32 r))

theorem i32_inj {a b : BitVec 32} (h : i32 a = i32 b) : a = b := BitVec.eq_of_toNat_eq (by unfold i32 at h; omega)
theorem i32_lt (r : BitVec 32) : 0 ≤ i32 r ∧ i32 r < 4294967296 := by
  have := r.isLt
  unfold i32
  omega
theorem of_i32 (r : BitVec 32) : BitVec.ofInt 32 (i32 r) = r := by
  apply BitVec.eq_of_toNat_eq
  unfold i32
  have := r.isLt
  simp
theorem wrap_i32 (r : BitVec 32) : IntKind.u32.wrap (r.toNat : Int) = i32 r := by
  rw [wrap32]
  have := i32_lt r
  unfold i32 at *
  omega
theorem and32 (a b : BitVec 32) : bitI .and .u32 (i32 a) (i32 b) = i32 (a &&& b) := by
  unfold bitI
  simp only [IntKind.bits, of_i32]
  exact wrap_i32 _
theorem or32 (a b : BitVec 32) : bitI .or .u32 (i32 a) (i32 b) = i32 (a ||| b) := by
  unfold bitI
  simp only [IntKind.bits, of_i32]
  exact wrap_i32 _
theorem xor32 (a b : BitVec 32) : bitI .xor .u32 (i32 a) (i32 b) = i32 (a ^^^ b) := by
  unfold bitI
  simp only [IntKind.bits, of_i32]
  exact wrap_i32 _
theorem neg32 (a : BitVec 32) : IntKind.u32.wrap (0 - i32 a) = i32 (- a) := by
  rw [wrap32]
  unfold i32
  rw [BitVec.toNat_neg]
  have := a.isLt
  omega
theorem sub32 (a b : BitVec 32) : IntKind.u32.wrap (i32 a - i32 b) = i32 (a - b) := by
  rw [wrap32]
  unfold i32
  rw [BitVec.toNat_sub]
  have := a.isLt
  have := b.isLt
  omega
theorem not32 (a : BitVec 32) : bitI .xor .u32 IntKind.u32.max (i32 a) = i32 (~~~ a) := by
  have : IntKind.u32.max = i32 (BitVec.allOnes 32) := by decide
  rw [this, xor32]
  congr 1
theorem sub_ones (a : BitVec 32) : 4294967295#32 - a = ~~~ a := by
  apply BitVec.eq_of_toNat_eq
  rw [BitVec.toNat_sub, BitVec.toNat_not]
  have := a.isLt
  simp only [BitVec.toNat_ofNat]
  omega

/-- the code's step -/
theorem step_code (r : BitVec 32) : (r >>> 1) ^^^ (2197175160#32 &&& -(r &&& 1#32)) = st1 r := by
  unfold st1
  congr 1
  have h : r &&& 1#32 = if r.getLsbD 0 then 1#32 else 0#32 := by
    apply BitVec.eq_of_getLsbD_eq
    intro i hi
    rcases i with _ | i
    · cases h : r.getLsbD 0 <;> simp [h] <;> simpa using h
    · have h1 : (1#32).getLsbD (i + 1) = false := by simp
      rw [BitVec.getLsbD_and, h1]
      split <;> simp
  rw [h]
  split
  · decide
  · decide
theorem shr1 (r : BitVec 32) : (i32 r).fdiv 2 = i32 (r >>> 1) := by
  unfold i32
  rw [BitVec.toNat_ushiftRight, Nat.shiftRight_eq_div_pow, Int.fdiv_eq_ediv_of_nonneg _ (by omega)]
  omega
theorem lsb (r : BitVec 32) : i32 r % 2 = if r.getLsbD 0 then 1 else 0 := by
  have : r.getLsbD 0 = decide (r.toNat % 2 = 1) := by
    rw [BitVec.getLsbD]
    simp [Nat.testBit_zero]
  rw [this]
  unfold i32
  split <;> simp_all <;> omega
theorem fit32 {a : AV} (h : Fit (.int .u32) a) : ∃ r, a = v32 r := by
  obtain ⟨n, rfl, hw⟩ := fit_int h
  simp only [Lit.wf, Bool.and_eq_true, decide_eq_true_eq] at hw
  have hn : 0 ≤ n ∧ n ≤ 4294967295 := by simpa [IntKind.min, IntKind.max, IntKind.signed, IntKind.bits] using hw
  refine ⟨BitVec.ofNat 32 n.toNat, ?_⟩
  unfold v32 i32
  rw [BitVec.toNat_ofNat, Nat.mod_eq_of_lt (by omega)]
  congr 2
  omega
theorem fit8 {a : AV} (h : Fit (.int .u8) a) : ∃ x : UInt8, a = u8 x := by
  obtain ⟨n, rfl, hw⟩ := fit_int h
  simp only [Lit.wf, Bool.and_eq_true, decide_eq_true_eq] at hw
  have hn : 0 ≤ n ∧ n ≤ 255 := by simpa [IntKind.min, IntKind.max, IntKind.signed, IntKind.bits] using hw
  refine ⟨UInt8.ofNat n.toNat, ?_⟩
  unfold u8
  rw [UInt8.toNat_ofNat', Nat.mod_eq_of_lt (by omega)]
  congr 2
  omega
end Crc
end Go.Sy
