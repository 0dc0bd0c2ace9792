/-
  What the statements' small helpers compute, as the reader reads them.
-/
import Derived.Test.YtmngededdpcieaaFn
import Derived.Laws.Strings
namespace Go.Sy
open Go.Proofs

theorem t8 : sl8 Try.prog 35 = true := by kernel_rfl
theorem conv_str (bx : Bx) (n : Nat) (b : List UInt8) (f : Bool) (hn : n = b.length) : convA Try.prog bx 35 9 (.sl n (u8l b) f) = some (.v (.string ⟨b.toArray⟩), bx) := by
  subst hn
  have h : convA Try.prog bx 35 9 (.sl b.length (u8l b) f) = if inA Try.prog 5 = some .u8 ∧ (u8l b).length = b.length then (bytesA (u8l b)).map fun l => (.v (.string ⟨l.toArray⟩), bx) else none := by kernel_rfl
  rw [h, if_pos ⟨by kernel_rfl, u8l_len b⟩, u8l_bytes]
  rfl
theorem str_eq (a b : List UInt8) : binA Try.prog .eql 9 (.v (.string ⟨a.toArray⟩)) (.v (.string ⟨b.toArray⟩)) = some (.v (.bool (a == b))) := by
  have h : binA Try.prog .eql 9 (.v (.string ⟨a.toArray⟩)) (.v (.string ⟨b.toArray⟩)) = some (.v (.bool ((⟨a.toArray⟩ : ByteArray).toList == (⟨b.toArray⟩ : ByteArray).toList))) := by kernel_rfl
  rw [h, ByteArray.toList_mk, ByteArray.toList_mk]
theorem same_ev (m : Nat) (a b : List UInt8) (f g : Bool) : cf (evFn cx0 ext0 (m + 1)) 14 [byt f a, byt g b] = some (.v (.bool (a == b))) := by
  unfold cf
  rw [E_base_SameBytes]
  refine ends_cf (P := Try.prog) ?_
  unfold F_base_SameBytes
  have c1 := fun bx => conv_str bx a.length a f rfl
  have c2 := fun bx => conv_str bx b.length b g rfl
  have e1 := str_eq a b
  have stq := (And.intro (c1) (And.intro (c2) (e1)))
  repeat first
    | ((with_reducible apply ends_bind); case h => first | (simp only [stp, stq]; first | done | rfl) | rfl)
    | ((with_reducible apply ends_t); case h => first | rfl | (simp only [stp, stq]; done))
    | ((with_reducible apply ends_f); case h => first | rfl | (simp only [stp, stq]; done))
  exact ends_some ⟨.inl rfl, _, rfl, rfl⟩
end Go.Sy
