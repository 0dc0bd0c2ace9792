/-
  Sealed sectors, in plain Lean. No conditions.
-/
import Derived.Test.YtmkdhgigghgieaaPlNum
import Derived.Test.YtmkdhgigghgieaaPlCrc
namespace Go.Sy
namespace Seal
open Num Crc

/-- a number's bytes -/
def q32 (x : Nat) : List UInt8 := [UInt8.ofNat x, UInt8.ofNat (x / 256), UInt8.ofNat (x / 65536), UInt8.ofNat (x / 16777216)]
theorem q32_len (x : Nat) : (q32 x).length = 4 := rfl
theorem le_q32 (x : Nat) (h : x < 4294967296) : le (q32 x) = x := by
  unfold q32
  simp only [le, UInt8.toNat_ofNat']
  omega
theorem q32_le (l : List UInt8) (h : l.length = 4) : q32 (le l) = l := by
  match l, h with
  | [a, b, c, d], _ =>
    have h1 := UInt8.toNat_lt a
    have h2 := UInt8.toNat_lt b
    have h3 := UInt8.toNat_lt c
    have h4 := UInt8.toNat_lt d
    unfold q32
    simp only [le]
    have k : ∀ (x : Nat) (y : UInt8), x % 256 = y.toNat → UInt8.ofNat x = y := by
      intro x y hxy
      apply UInt8.toNat_inj.1
      rw [UInt8.toNat_ofNat']
      omega
    rw [k _ a (by omega), k _ b (by omega), k _ c (by omega), k _ d (by omega)]

def mayK (k : Int) : Prop := 1 ≤ k ∧ k ≤ 6
instance (k : Int) : Decidable (mayK k) := by unfold mayK; infer_instance
/-- the sum's number -/
def crc (b : List UInt8) : Nat := (sum b).toNat
theorem crc_lt (b : List UInt8) : crc b < 4294967296 := (sum b).isLt
/-- a sealed sector ahead of its sum -/
def hd (k : Nat) (t : Nat) (p : List UInt8) : List UInt8 := p ++ [UInt8.ofNat k, UInt8.ofNat (255 - k)] ++ q32 t
theorem hd_len (k t : Nat) (p : List UInt8) (h : p.length = 54) : (hd k t p).length = 60 := by simp [hd, h, q32_len]
def blk (k : Nat) (t : Nat) (p : List UInt8) : List UInt8 := hd k t p ++ q32 (crc (hd k t p))
theorem blk_len (k t : Nat) (p : List UInt8) (h : p.length = 54) : (blk k t p).length = 64 := by simp [blk, hd_len, h, q32_len]
abbrev zero (n : Nat) : List UInt8 := List.replicate n 0

/-- the parts of a sector -/
def ld (b : List UInt8) : List UInt8 := b.take 54
def kd (b : List UInt8) : Nat := (b.getD 54 0).toNat
def kd' (b : List UInt8) : Nat := (b.getD 55 0).toNat
def tn (b : List UInt8) : Nat := le ((b.drop 56).take 4)
def sm (b : List UInt8) : Nat := le ((b.drop 60).take 4)
theorem ld_len (b : List UInt8) (h : b.length = 64) : (ld b).length = 54 := by simp [ld, h]
theorem tn_lt (b : List UInt8) : tn b < 4294967296 := le_lt4 _ (by rw [List.length_take]; omega)
theorem sm_lt (b : List UInt8) : sm b < 4294967296 := le_lt4 _ (by rw [List.length_take]; omega)

theorem split64 (b : List UInt8) (h : b.length = 64) : b = ld b ++ [b.getD 54 0, b.getD 55 0] ++ (b.drop 56).take 4 ++ (b.drop 60).take 4 := by
  have e1 : b = b.take 54 ++ b.drop 54 := (List.take_append_drop 54 b).symm
  have e2 : b.drop 54 = b.getD 54 0 :: b.drop 55 := by
    rw [List.drop_eq_getElem_cons (by omega), List.getD_eq_getElem?_getD, List.getElem?_eq_getElem (by omega)]
    rfl
  have e3 : b.drop 55 = b.getD 55 0 :: b.drop 56 := by
    rw [List.drop_eq_getElem_cons (by omega), List.getD_eq_getElem?_getD, List.getElem?_eq_getElem (by omega)]
    rfl
  have e4 : b.drop 56 = (b.drop 56).take 4 ++ b.drop 60 := by
    have := (List.take_append_drop 4 (b.drop 56)).symm
    rw [List.drop_drop] at this
    exact this
  have e5 : (b.drop 60).take 4 = b.drop 60 := List.take_of_length_le (by rw [List.length_drop]; omega)
  rw [e5]
  unfold ld
  conv => lhs; rw [e1, e2, e3, e4]
  simp

/-- is it right of the kind that it names? -/
def right (b : List UInt8) : Bool := decide (mayK (kd b)) && decide (kd' b = 255 - kd b ∧ sm b = crc (b.take 60))

theorem take60 (b : List UInt8) (h : b.length = 64) : b.take 60 = ld b ++ [b.getD 54 0, b.getD 55 0] ++ (b.drop 56).take 4 := by
  have e := split64 b h
  have hl : (ld b ++ [b.getD 54 0, b.getD 55 0] ++ (b.drop 56).take 4).length = 60 := by simp [ld, h]
  generalize hx : ld b ++ [b.getD 54 0, b.getD 55 0] ++ (b.drop 56).take 4 = x at *
  rw [e, List.take_left' hl]

theorem blk_eq (b : List UInt8) (h : b.length = 64) (hk : mayK (kd b)) : (blk (kd b) (tn b) (ld b) == b) = decide (kd' b = 255 - kd b ∧ sm b = crc (b.take 60)) := by
  rw [Bool.eq_iff_iff]
  simp only [beq_iff_eq, decide_eq_true_eq]
  have e := split64 b h
  have e60 := take60 b h
  have q1 : q32 (tn b) = (b.drop 56).take 4 := q32_le _ (by simp [h])
  have q2 : q32 (sm b) = (b.drop 60).take 4 := q32_le _ (by simp [h])
  have k1 : UInt8.ofNat (kd b) = b.getD 54 0 := by
    unfold kd
    simp
  unfold mayK at hk
  have hk' : UInt8.ofNat (255 - kd b) = b.getD 55 0 ↔ kd' b = 255 - kd b := by
    unfold kd'
    constructor
    · intro hh
      rw [← hh, UInt8.toNat_ofNat']
      omega
    · intro hh
      rw [← hh]
      simp
  have hh : hd (kd b) (tn b) (ld b) = ld b ++ [b.getD 54 0, UInt8.ofNat (255 - kd b)] ++ (b.drop 56).take 4 := by
    unfold hd
    rw [k1, q1]
  constructor
  · intro he
    unfold blk at he
    have hl : (hd (kd b) (tn b) (ld b)).length = 60 := hd_len _ _ _ (ld_len b h)
    have e1 : hd (kd b) (tn b) (ld b) = b.take 60 := by
      have := congrArg (List.take 60) he
      rw [List.take_left' hl] at this
      exact this
    have e2 : q32 (crc (hd (kd b) (tn b) (ld b))) = (b.drop 60).take 4 := by
      have hd60 : b.drop 60 = q32 (crc (hd (kd b) (tn b) (ld b))) := by
        have := congrArg (List.drop 60) he
        rw [List.drop_left' hl] at this
        exact this.symm
      rw [hd60]
      rfl
    have e3 : UInt8.ofNat (255 - kd b) = b.getD 55 0 := by
      rw [hh, e60] at e1
      have := List.append_cancel_right e1
      have := List.append_cancel_left this
      simpa using this
    refine ⟨hk'.1 e3, ?_⟩
    rw [e1, ← q2] at e2
    have := congrArg le e2
    rw [le_q32 _ (crc_lt _), le_q32 _ (sm_lt _)] at this
    exact this.symm
  · rintro ⟨h1, h2⟩
    have e3 := hk'.2 h1
    have e1 : hd (kd b) (tn b) (ld b) = b.take 60 := by rw [hh, e60, e3]
    unfold blk
    rw [e1, ← h2, q2, e60]
    exact e.symm

/-- a sealed sector is right -/
theorem blk_parts (k t : Nat) (p : List UInt8) (hp : p.length = 54) (hk : mayK k) (ht : t < 4294967296) : ld (blk k t p) = p ∧ kd (blk k t p) = k ∧ tn (blk k t p) = t ∧ right (blk k t p) = true := by
  unfold mayK at hk
  have l64 := blk_len k t p hp
  have e : blk k t p = p ++ ([UInt8.ofNat k, UInt8.ofNat (255 - k)] ++ (q32 t ++ q32 (crc (hd k t p)))) := by
    unfold blk hd
    simp
  have h1 : ld (blk k t p) = p := by
    unfold ld
    rw [e, List.take_left' hp]
  have d54 : (blk k t p).drop 54 = [UInt8.ofNat k, UInt8.ofNat (255 - k)] ++ (q32 t ++ q32 (crc (hd k t p))) := by rw [e, List.drop_left' hp]
  have g54 : (blk k t p).getD 54 0 = UInt8.ofNat k := by
    have := congrArg (fun l => l[0]?) d54
    simp only [List.getElem?_drop] at this
    rw [List.getD_eq_getElem?_getD, this]
    rfl
  have g55 : (blk k t p).getD 55 0 = UInt8.ofNat (255 - k) := by
    have := congrArg (fun l => l[1]?) d54
    simp only [List.getElem?_drop] at this
    rw [List.getD_eq_getElem?_getD, this]
    rfl
  have h2 : kd (blk k t p) = k := by
    unfold kd
    rw [g54, UInt8.toNat_ofNat']
    omega
  have h3 : kd' (blk k t p) = 255 - k := by
    unfold kd'
    rw [g55, UInt8.toNat_ofNat']
    omega
  have d56 : (blk k t p).drop 56 = q32 t ++ q32 (crc (hd k t p)) := by
    have := congrArg (List.drop 2) d54
    rw [List.drop_drop] at this
    exact this
  have h4 : tn (blk k t p) = t := by
    unfold tn
    rw [d56, List.take_left' (q32_len t), le_q32 t ht]
  have h5 : sm (blk k t p) = crc ((blk k t p).take 60) := by
    have d60 : (blk k t p).drop 60 = q32 (crc (hd k t p)) := by
      unfold blk
      rw [List.drop_left' (hd_len k t p hp)]
    have t60 : (blk k t p).take 60 = hd k t p := by
      unfold blk
      rw [List.take_left' (hd_len k t p hp)]
    unfold sm
    rw [d60, t60, List.take_of_length_le (by rw [q32_len]; omega), le_q32 _ (crc_lt _)]
  refine ⟨h1, h2, h4, ?_⟩
  unfold right
  rw [h2, h3, h5, decide_eq_true (show mayK (k : Int) from hk), decide_eq_true ⟨rfl, rfl⟩]
  rfl
theorem fill_succ (b : List UInt8) (i N : Nat) (hi : i < N) (hN : N ≤ b.length) : (b.take i ++ zero (N - i)).set i (b[i]'(by omega)) = b.take (i + 1) ++ zero (N - (i + 1)) := by
  have h1 : (b.take i).length = i := by rw [List.length_take]; omega
  rw [List.set_append_right _ _ (by omega), h1, Nat.sub_self, show N - i = (N - (i + 1)) + 1 by omega, show zero (N - (i + 1) + 1) = 0 :: zero (N - (i + 1)) from rfl, List.set_cons_zero, List.take_succ_eq_append_getElem (by omega), List.append_assoc]
  rfl
end Seal
end Go.Sy
