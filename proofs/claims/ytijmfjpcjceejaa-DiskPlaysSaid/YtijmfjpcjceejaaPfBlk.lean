/-
  Sectors: bytes, cut into blocks of 64; slices of blocks, in boxes.
-/
import Derived.Test.YtijmfjpcjceejaaSyArr
import Derived.Test.YtijmfjpcjceejaaSyGrow
import Derived.Test.YtijmfjpcjceejaaProg
import Derived.KernelRfl
namespace Go.Sy
open Go.Proofs

theorem hB : arr8 Try.prog 32 64 = true := by kernel_rfl
def bk (b : List UInt8) (i : Nat) : List UInt8 := (b.drop (i * 64)).take 64
theorem bk_len {b : List UInt8} {i n : Nat} (h : i < n) (hb : b.length = n * 64) : (bk b i).length = 64 := by
  unfold bk
  rw [List.length_take, List.length_drop]
  omega
theorem el_bl : isSl Try.prog 35 = true ∧ elA Try.prog 35 = some 32 ∧ szA Try.prog 32 = some 64 := ⟨by kernel_rfl, by kernel_rfl, by kernel_rfl⟩
theorem by_bl : byA Try.prog 32 = some 64 := by kernel_rfl
theorem zc_bl : zcA Try.prog 32 = some (u8l (List.replicate 64 0)) := by kernel_rfl
theorem ln_bb (c n e : Nat) : lenA Try.prog 35 (.bsl c 0 n e) = some (.v (.int .i64 n)) := by kernel_rfl
theorem ix_bb (c k j : Nat) (q : IntKind) (hj : j < k) : indexAddrA Try.prog 35 (.bsl c 0 k 64) (.v (.int q j)) = some (.bp c (j * 64)) := by
  unfold indexAddrA
  simp only [el_bl.1, if_true, el_bl.2.1, el_bl.2.2, Option.bind_some, idxI]
  rw [if_pos ⟨by omega, by omega⟩]
  simp
theorem ld_bb {bx : Bx} {t k j : Nat} {c : List UInt8} (h : bx[t]? = some (u8l c)) (hc : c.length = k * 64) (hj : j < k) : loadA Try.prog 32 bx (.bp t (j * 64)) = some (.agg (u8l (bk c j))) :=
  ld_ao hB h (by omega)
theorem ln_gs (c n e : Nat) : lenA Try.prog 35 (.gs c n e) = some (.v (.int .i64 n)) := by kernel_rfl
theorem ix_gs (c k j : Nat) (q : IntKind) (hj : j < k) : indexAddrA Try.prog 35 (.gs c k 64) (.v (.int q j)) = some (.gp c (j * 64) 64) := by
  unfold indexAddrA
  simp only [el_bl.1, if_true, el_bl.2.1, el_bl.2.2, Option.bind_some, idxI]
  rw [if_pos ⟨by omega, by omega⟩]
  simp
theorem ld_gs {bx : Bx} {t k j : Nat} {c : List UInt8} (h : bx[t]? = some (u8l c)) (hc : c.length = k * 64) (hj : j < k) : loadA Try.prog 32 bx (.gp t (j * 64) 64) = some (.agg (u8l (bk c j))) := by
  have ag : agA Try.prog 32 = some true := by kernel_rfl
  have hl : (((u8l c).drop (j * 64)).take 64).length = 64 := by rw [List.length_take, List.length_drop, u8l_len]; omega
  unfold loadA partA
  simp only [h, Option.bind_some, el_bl.2.2, ag]
  rw [if_pos (by rw [hl]; omega), List.drop_zero, List.take_of_length_le (by rw [hl]; omega), u8l_drop, u8l_take]
  rfl
def spl (c : List UInt8) (j : Nat) (q : List UInt8) : List UInt8 := c.take (j * 64) ++ q ++ c.drop (j * 64 + 64)
theorem st_bb {bx : Bx} {t k j : Nat} {c q : List UInt8} (h : bx[t]? = some (u8l c)) (hc : c.length = k * 64) (hj : j < k) (hq : q.length = 64) : stA Try.prog 32 bx (.bp t (j * 64)) (.agg (u8l q)) = some (.v undef, bx.set t (u8l (spl c j q))) := by
  unfold stA storeA
  have h1 : szA Try.prog 32 = some 64 := el_bl.2.2
  simp only [h1, h, Option.bind_some]
  rw [if_pos ⟨rfl, by simp [AV.cells, u8l_len, hq], by rw [u8l_len]; omega⟩]
  show some (AV.v undef, bx.set t (storeL (u8l c) (j * 64) (u8l q))) = _
  rw [storeL_eq _ _ _ (by simp only [u8l_len]; omega), u8l_take, u8l_drop, u8l_app, u8l_app, u8l_len, hq]
  rfl
theorem spl_len {c q : List UInt8} {j k : Nat} (hc : c.length = k * 64) (hj : j < k) (hq : q.length = 64) : (spl c j q).length = k * 64 := by
  unfold spl
  simp only [List.length_append, List.length_take, List.length_drop]
  omega
theorem spl_at {c q : List UInt8} {j k : Nat} (hc : c.length = k * 64) (hj : j < k) (hq : q.length = 64) : bk (spl c j q) j = q := by
  unfold bk spl
  have h1 : (c.take (j * 64)).length = j * 64 := by rw [List.length_take]; omega
  rw [List.append_assoc, List.drop_append_of_le_length (by omega), List.drop_of_length_le (by omega), List.nil_append, List.take_append_of_le_length (by omega), List.take_of_length_le (by omega)]
theorem spl_gt {c q : List UInt8} {i j k : Nat} (hc : c.length = k * 64) (hj : j < i) (hi : i < k) (hq : q.length = 64) : bk (spl c j q) i = bk c i := by
  unfold bk spl
  have h1 : (c.take (j * 64)).length = j * 64 := by rw [List.length_take]; omega
  have h2 : (c.take (j * 64) ++ q).length = j * 64 + 64 := by rw [List.length_append]; omega
  rw [List.drop_append, List.drop_of_length_le (by omega), List.nil_append, List.drop_drop, h2]
  congr 2
  omega
theorem spl_lt {c q : List UInt8} {i j k : Nat} (hc : c.length = k * 64) (hj : i < j) (hi : j < k) : bk (spl c j q) i = bk c i := by
  unfold bk spl
  have h1 : (c.take (j * 64)).length = j * 64 := by rw [List.length_take]; omega
  rw [List.append_assoc, List.drop_append_of_le_length (by omega), List.take_append_of_le_length (by rw [List.length_drop]; omega), List.drop_take, List.take_take]
  congr 1
  omega
theorem spl_ne {c q : List UInt8} {i j k : Nat} (hc : c.length = k * 64) (hj : j < k) (hi : i < k) (hij : i ≠ j) (hq : q.length = 64) : bk (spl c j q) i = bk c i := by
  rcases Nat.lt_or_gt_of_ne hij with h | h
  · exact spl_lt hc h hj
  · exact spl_gt hc h hi hq
theorem bk_ext : ∀ (n : Nat) {b c : List UInt8}, b.length = n * 64 → c.length = n * 64 → (∀ i, i < n → bk b i = bk c i) → b = c
  | 0, b, c, hb, hc, _ => by
    rw [List.length_eq_zero_iff.1 (by omega : b.length = 0), List.length_eq_zero_iff.1 (by omega : c.length = 0)]
  | n + 1, b, c, hb, hc, h => by
    have h0 : b.take 64 = c.take 64 := by
      have := h 0 (by omega)
      unfold bk at this
      simpa using this
    have ht : b.drop 64 = c.drop 64 := bk_ext n (by rw [List.length_drop]; omega) (by rw [List.length_drop]; omega) fun i hi => by
      have := h (i + 1) (by omega)
      unfold bk at this ⊢
      rw [List.drop_drop, List.drop_drop, show 64 + i * 64 = (i + 1) * 64 by omega]
      exact this
    rw [← List.take_append_drop 64 b, ← List.take_append_drop 64 c, h0, ht]
/-- bytes of which each block is told -/
def lay (n : Nat) (f : Nat → List UInt8) : List UInt8 := (List.range n).flatMap f
theorem lay_len (n : Nat) (f : Nat → List UInt8) (h : ∀ i, i < n → (f i).length = 64) : (lay n f).length = n * 64 := by
  unfold lay
  induction n with
  | zero => rfl
  | succ n ih =>
    rw [List.range_succ, List.flatMap_append, List.length_append, ih fun i hi => h i (by omega), List.flatMap_singleton, h n (by omega)]
    omega
theorem lay_bk (n : Nat) (f : Nat → List UInt8) (h : ∀ i, i < n → (f i).length = 64) (i : Nat) (hi : i < n) : bk (lay n f) i = f i := by
  induction n with
  | zero => omega
  | succ n ih =>
    have hl := lay_len n f fun i hi => h i (by omega)
    have e : lay (n + 1) f = lay n f ++ f n := by
      unfold lay
      rw [List.range_succ, List.flatMap_append, List.flatMap_singleton]
    rw [e]
    unfold bk
    by_cases hin : i < n
    · rw [List.drop_append_of_le_length (by omega), List.take_append_of_le_length (by rw [List.length_drop]; omega)]
      exact ih (fun i hi => h i (by omega)) hin
    · have : i = n := by omega
      subst this
      rw [List.drop_append_of_le_length (by omega), List.drop_of_length_le (by omega), List.nil_append, List.take_of_length_le (by rw [h i (by omega)]; omega)]
end Go.Sy
