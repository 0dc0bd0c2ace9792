/-
  Layer 06: the law GeomOnce as the reader reads it.
-/
import Derived.Test.YtkpoapobhgleaaaPfOnce
namespace Go.Sy
open Go.Proofs

section
variable {a b c : Nat} (ha : 1 ≤ a ∧ a ≤ 8) (hb : 1 ≤ b ∧ b ≤ 8) (hc : 4 ≤ c ∧ c ≤ 33)
include ha hb hc

theorem ok_n : gOk (a : Int) b c := by unfold gOk; omega
theorem aS_le : a * (2 + b + c) ≤ 8 * 43 := Nat.mul_le_mul ha.2 (by omega)
theorem tot_n : gTot (a : Int) b c = ((2 + a * (2 + b + c) : Nat) : Int) := by
  rw [show gTot (a : Int) b c = 2 + (a : Int) * (2 + b + c) from if_pos (ok_n ha hb hc)]
  push_cast
  rfl
theorem ino_n : gIno (a : Int) b c = ((3 * a * b : Nat) : Int) := by
  rw [show gIno (a : Int) b c = 3 * (a : Int) * b from if_pos (ok_n ha hb hc)]
  push_cast
  rfl
theorem gIn_n (g t : Nat) (hg : g < a) : gIn (a : Int) b c g t = .tup [.v (.int .i64 ((2 + g * (2 + b + c) + t : Nat) : Int)), .v (.int .i64 0)] := by
  rw [show gIn (a : Int) b c g t = _ from if_pos ⟨ok_n ha hb hc, by omega, by omega⟩]
  push_cast
  rfl
theorem gData_n (g i : Nat) (hg : g < a) (hi : i < c) : gData (a : Int) b c g i = .tup [.v (.int .i64 ((2 + g * (2 + b + c) + (2 + b + i) : Nat) : Int)), .v (.int .i64 0)] := by
  rw [show gData (a : Int) b c g i = _ from if_pos ⟨ok_n ha hb hc, by omega, by omega, by omega, by omega⟩]
  push_cast
  rfl
omit ha hb hc in
theorem pos_lt (g t : Nat) (hg : g < a) (ht : t < 2 + b + c) : 2 + g * (2 + b + c) + t < 2 + a * (2 + b + c) := by
  have : (g + 1) * (2 + b + c) ≤ a * (2 + b + c) := Nat.mul_le_mul_right _ hg
  rw [Nat.add_mul, Nat.one_mul] at this
  omega
theorem gWhere_n (g t : Nat) (hg : g < a) (ht : t < 2 + b + c) : gWhere (a : Int) b c ((2 + g * (2 + b + c) + t : Nat) : Int) = .tup [plc b t g, .v (.int .i64 0)] := by
  have h1 := pos_lt g t hg ht
  have h2 := tot_n ha hb hc
  have h3 := at_q (S := 2 + b + c) (g := g) (t := t) ht
  rw [show gWhere (a : Int) b c ((2 + g * (2 + b + c) + t : Nat) : Int) = _ from if_pos ⟨by omega, by rw [h2]; omega⟩, if_neg (by omega)]
  have e : (((2 + g * (2 + b + c) + t : Nat) : Int) - 2) = ((2 + g * (2 + b + c) + t - 2 : Nat) : Int) := by omega
  have e2 : (2 + (b : Int) + c) = ((2 + b + c : Nat) : Int) := by push_cast; rfl
  rw [e, e2, ← Int.natCast_ediv, ← Int.natCast_emod, h3.1, h3.2]
omit ha hc in
theorem ino_q (m : Nat) (hm : m < 3 * a * b) : m / (3 * b) < a ∧ m % (3 * b) < 3 * b := by
  refine ⟨(Nat.div_lt_iff_lt_mul (by omega)).mpr ?_, Nat.mod_lt _ (by omega)⟩
  rw [← Nat.mul_assoc, Nat.mul_comm a 3]
  exact hm
theorem gSlot_n (m : Nat) (hm : m < 3 * a * b) : gSlot (a : Int) b c ((m + 1 : Nat) : Int) = .tup [sV ((2 + m / (3 * b) * (2 + b + c) + (2 + m % (3 * b) / 3) : Nat) : Int) ((m % (3 * b) % 3 : Nat) : Int) ((m / (3 * b) : Nat) : Int) ((m % (3 * b) : Nat) : Int), .v (.int .i64 0)] := by
  rw [show gSlot (a : Int) b c ((m + 1 : Nat) : Int) = _ from if_pos ⟨by omega, by rw [ino_n ha hb hc]; omega⟩]
  unfold sIno
  have e1 : (((m + 1 : Nat) : Int) - 1) = (m : Int) := by omega
  have e2 : (3 * (b : Int)) = ((3 * b : Nat) : Int) := by push_cast; rfl
  rw [e1, e2, ← Int.natCast_ediv, ← Int.natCast_emod]
  push_cast
  rfl
end
theorem plc_0 (b g : Nat) : plc b (0 : Nat) g = pV 2 g 0 := rfl
theorem plc_1 (b g : Nat) : plc b (1 : Nat) g = pV 3 g 0 := rfl
theorem plc_d (b i g : Nat) : plc b ((2 + b + i : Nat) : Int) g = pV 0 g i := by
  unfold plc
  rw [if_neg (by omega), if_neg (by omega), if_neg (by omega)]
  congr 4
  omega
theorem plc_i (b k g : Nat) (h : k < b) : plc b ((2 + k : Nat) : Int) g = pV 4 g k := by
  unfold plc
  rw [if_neg (by omega), if_neg (by omega), if_pos (by omega)]
  congr 4
  omega
end Go.Sy
