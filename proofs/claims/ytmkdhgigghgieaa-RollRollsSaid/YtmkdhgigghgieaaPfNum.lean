/-
  What the functions of numbers and bits compute, as the reader reads them.
-/
import Derived.Test.YtmkdhgigghgieaaPfBase
import Derived.Test.YtmkdhgigghgieaaPlNum
namespace Go.Sy
open Go.Proofs Num

theorem cv_8_64 (bx : Bx) (n : Int) : convA Try.prog bx 5 3 (.v (.int .u8 n)) = some (.v (.int .i64 (IntKind.i64.wrap n)), bx) := by kernel_rfl
theorem len_b (f : Bool) (b : List UInt8) : lenA Try.prog 31 (byt f b) = some (.v (.int .i64 b.length)) := by kernel_rfl
theorem w8 (x : UInt8) : IntKind.i64.wrap (x.toNat : Int) = (x.toNat : Int) := by
  have := UInt8.toNat_lt x
  rw [wrap64]
  omega
theorem nat8 (i : Nat) (h : i < 2 ^ 62) : IntKind.i64.wrap ((i : Int).tdiv 8) = ((i / 8 : Nat) : Int) ∧ (i : Int).tmod 8 = ((i % 8 : Nat) : Int) ∧ IntKind.i64.wrap ((i : Int) + 1) = ((i + 1 : Nat) : Int) := by
  refine ⟨?_, ?_, ?_⟩
  · rw [Int.tdiv_eq_ediv_of_nonneg (by omega), wrap64]; omega
  · rw [Int.tmod_eq_emod_of_nonneg (by omega)]; omega
  · rw [wrap64]; omega
theorem bitAt_eq (b : List UInt8) (i : Nat) (h : i / 8 < b.length) : bitAt b i = tb b[i / 8] (i % 8) := by
  unfold bitAt
  rw [List.getD_eq_getElem?_getD, List.getElem?_eq_getElem h]
  rfl
theorem withB_eq (b : List UInt8) (i : Nat) (on : Bool) (h : i / 8 < b.length) : withB b i on = b.set (i / 8) (sb b[i / 8] (i % 8) on) := by
  unfold withB
  rw [List.getD_eq_getElem?_getD, List.getElem?_eq_getElem h]
  rfl
/-- what 'Bit' answers -/
def bitV (b : List UInt8) (i : Int) : AV := if i < 0 ∨ 8 * b.length ≤ i then .tup [.v (.bool false), .v (.int .i64 2)] else .tup [.v (.bool (bitAt b i.toNat)), .v (.int .i64 0)]
theorem bitV_no (b : List UInt8) (i : Int) (h : i < 0 ∨ 8 * b.length ≤ i) : bitV b i = .tup [.v (.bool false), .v (.int .i64 2)] := if_pos h
theorem bitV_ok (b : List UInt8) (i : Nat) (h : i < 8 * b.length) : bitV b i = .tup [.v (.bool (bitAt b i)), .v (.int .i64 0)] := by
  unfold bitV
  rw [if_neg (by omega)]
  rfl





/-- how many of so many bits there are -/
def lim (b : List UInt8) (n : Int) : Nat := (min n (8 * b.length)).toNat
theorem lim_le (b : List UInt8) (n : Int) : lim b n ≤ 8 * b.length := by unfold lim; omega



/-- from where a search goes on -/
def frm (z : Int) : Nat := (max z 0).toNat
/-- what 'First' answers -/
def fstV (b : List UInt8) (from_ z : Int) : Int := fst0 b (frm from_) (lim b z - frm from_)



/-- what 'get' answers -/
def getV (k : IntKind) (b : List UInt8) (a : Int) (n : Nat) : AV := if a < 0 ∨ b.length < a + n then .tup [.v (.int k 0), .v (.int .i64 7)] else .tup [.v (.int k (le ((b.drop a.toNat).take n) : Nat)), .v (.int .i64 0)]

theorem get_ev {m : Nat} (hm : 10 ≤ m) (b : List UInt8) (f : Bool) (a : Int) (ha : a < 2 ^ 63) (hb : b.length < 2 ^ 32) (n : Nat) (hn0 : 0 < n) (hn : n ≤ 4) : cf (evFn cx0 ext0 m) 59 [byt f b, .v (.int .i64 a), .v (.int .i64 n)] = some (getV .u32 b a n) := by
  obtain ⟨m, rfl⟩ : ∃ k, m = k + 1 := ⟨m - 1, by omega⟩
  have n1 := len_b f b
  unfold cf
  rw [E_num_get]
  refine ends_cf (P := Try.prog) ?_
  unfold F_num_get
  by_cases h1 : a < 0
  · have g1 : decide (a < 0) = true := decide_eq_true h1
    rw [show getV .u32 b a n = _ from if_pos (Or.inl h1)]
    have stq := (g1)
    repeat first
      | ((with_reducible apply ends_bind); case h => first | (simp only [stp, stq]; first | done | rfl) | rfl)
      | ((with_reducible apply ends_t); case h => first | rfl | (simp only [stp, stq]; done))
      | ((with_reducible apply ends_f); case h => first | rfl | (simp only [stp, stq]; done))
    exact ends_some ⟨.inl rfl, _, rfl, rfl⟩
  have g1 : decide (a < 0) = false := decide_eq_false h1
  by_cases h2 : (b.length : Int) < a
  · have g2 : decide ((b.length : Int) < a) = true := decide_eq_true h2
    rw [show getV .u32 b a n = _ from if_pos (Or.inr (by omega))]
    have stq := (And.intro (g1) (And.intro (g2) (n1)))
    repeat first
      | ((with_reducible apply ends_bind); case h => first | (simp only [stp, stq]; first | done | rfl) | rfl)
      | ((with_reducible apply ends_t); case h => first | rfl | (simp only [stp, stq]; done))
      | ((with_reducible apply ends_f); case h => first | rfl | (simp only [stp, stq]; done))
    exact ends_some ⟨.inl rfl, _, rfl, rfl⟩
  have g2 : decide ((b.length : Int) < a) = false := decide_eq_false h2
  have e1 : IntKind.i64.wrap ((b.length : Int) - a) = b.length - a := by rw [wrap64]; omega
  by_cases h3 : (b.length : Int) - a < n
  · have g3 : decide ((b.length : Int) - a < n) = true := decide_eq_true h3
    rw [show getV .u32 b a n = _ from if_pos (Or.inr (by omega))]
    have stq := (And.intro (g1) (And.intro (g2) (And.intro (e1) (And.intro (g3) (n1)))))
    repeat first
      | ((with_reducible apply ends_bind); case h => first | (simp only [stp, stq]; first | done | rfl) | rfl)
      | ((with_reducible apply ends_t); case h => first | rfl | (simp only [stp, stq]; done))
      | ((with_reducible apply ends_f); case h => first | rfl | (simp only [stp, stq]; done))
    exact ends_some ⟨.inl rfl, _, rfl, rfl⟩
  have g3 : decide ((b.length : Int) - a < n) = false := decide_eq_false h3
  obtain ⟨a, rfl⟩ : ∃ k : Nat, a = k := ⟨a.toNat, by omega⟩
  rw [show getV .u32 b a n = _ from if_neg (by omega : ¬ ((a : Int) < 0 ∨ (b.length : Int) < a + n))]
  have stq := (And.intro (g1) (And.intro (g2) (And.intro (e1) (And.intro (g3) (n1)))))
  repeat first
    | ((with_reducible apply ends_bind); case h => first | (simp only [stp, stq]; first | done | rfl) | rfl)
    | ((with_reducible apply ends_t); case h => first | rfl | (simp only [stp, stq]; done))
    | ((with_reducible apply ends_f); case h => first | rfl | (simp only [stp, stq]; done))
  refine ends_loop (fun k s => ∃ (j x : Int) (y : AV), s = ⟨[(27, .v (.int .i64 j)), (26, .v (.int .i64 n)), (8, .v (.int .u32 x)), (25, y), (7, .v (.int .i64 0)), (6, .v (.int .u32 0)), (0, byt f b), (1, .v (.int .i64 a)), (2, .v (.int .i64 n))], []⟩ ∧
    ∃ (i : Nat), j = i ∧ i + k = n ∧ x = (le ((b.drop a).take i) : Nat)) n (by omega) ⟨_, _, _, rfl, 0, rfl, by omega, by simp [le]⟩ ?_
  rintro k s ⟨j, x, y, rfl, i, rfl, hk, rfl⟩
  refine L_num_get_0_lit ?_
  unfold B_num_get_0
  rcases k with _ | k
  · have h4 : decide ((i : Int) < (n : Int)) = false := decide_eq_false (by omega)
    have stq := (h4)
    repeat first
      | ((with_reducible apply ends_bind); case h => first | (simp only [stp, stq]; first | done | rfl) | rfl)
      | ((with_reducible apply ends_t); case h => first | rfl | (simp only [stp, stq]; done))
      | ((with_reducible apply ends_f); case h => first | rfl | (simp only [stp, stq]; done))
    refine ends_some (.inr (.inl ⟨0, rfl, X_num_get_0_0_lit (ends_some ⟨.inl rfl, _, rfl, ?_⟩)⟩))
    rw [show n = i by omega]
    rfl
  · have h4 : decide ((i : Int) < (n : Int)) = true := decide_eq_true (by omega)
    have e2 : IntKind.i64.wrap ((a : Int) + i) = ((a + i : Nat) : Int) := by rw [wrap64]; omega
    have e3 : IntKind.i64.wrap (8 * (i : Int)) = ((8 * i : Nat) : Int) := by rw [wrap64]; omega
    have e4 : IntKind.i64.wrap ((i : Int) + 1) = ((i + 1 : Nat) : Int) := by rw [wrap64]; omega
    have hi : a + i < b.length := by omega
    have i1 := idx_u8 t8 b f .i64 (a + i) hi
    have hc : ∀ bx, convA Try.prog bx 5 39 (u8 b[a + i]) = some (.v (.int .u32 (b[a + i].toNat : Int)), bx) := by
      intro bx
      have : convA Try.prog bx 5 39 (u8 b[a + i]) = some (.v (.int .u32 (IntKind.u32.wrap (b[a + i].toNat : Int))), bx) := by kernel_rfl
      rw [this, wrap32]
      have := UInt8.toNat_lt b[a + i]
      congr 4
      omega
    have hx : ((b.drop a).take i).length = i := by rw [List.length_take, List.length_drop]; omega
    have o1 := or_byte (le ((b.drop a).take i)) i b[a + i].toNat (by omega) (by have := le_lt ((b.drop a).take i); rwa [hx] at this) (UInt8.toNat_lt _)
    have hs : (b.drop a).take (i + 1) = (b.drop a).take i ++ [b[a + i]] := by
      rw [List.take_succ_eq_append_getElem (by rw [List.length_drop]; omega)]
      simp
    have hl : le ((b.drop a).take i) + 256 ^ i * b[a + i].toNat = le ((b.drop a).take (i + 1)) := by rw [hs, le_snoc, hx]
    rw [hl] at o1
    have stq := (And.intro (h4) (And.intro (e2) (And.intro (e3) (And.intro (e4) (And.intro (i1) (And.intro (hc) (o1)))))))
    repeat first
      | ((with_reducible apply ends_bind); case h => first | (simp only [stp, stq]; first | done | rfl) | rfl)
      | ((with_reducible apply ends_t); case h => first | rfl | (simp only [stp, stq]; done))
      | ((with_reducible apply ends_f); case h => first | rfl | (simp only [stp, stq]; done))
    exact ends_some (.inl ⟨rfl, k, by omega, _, _, _, rfl, i + 1, by first | rfl | exact e4, by omega, by first | rfl | exact o1⟩)

theorem Get32_ev {m : Nat} (hm : 12 ≤ m) (b : List UInt8) (f : Bool) (a : Int) (ha : a < 2 ^ 63) (hb : b.length < 2 ^ 32) : cf (evFn cx0 ext0 m) 54 [byt f b, .v (.int .i64 a)] = some (getV .u32 b a 4) := by
  obtain ⟨m, rfl⟩ : ∃ k, m = k + 1 := ⟨m - 1, by omega⟩
  have c1 : cf (evFn cx0 ext0 m) 59 [byt f b, .v (.int .i64 a), .v (.int .i64 4)] = _ := get_ev (m := m) (by omega) b f a ha hb 4 (by omega) (by omega)
  unfold cf
  rw [E_num_Get32]
  refine ends_cf (P := Try.prog) ?_
  unfold F_num_Get32
  unfold getV at c1 ⊢
  split at c1
  · rename_i h
    rw [if_pos h]
    have stq := (c1)
    repeat first
      | ((with_reducible apply ends_bind); case h => first | (simp only [stp, stq]; first | done | rfl) | rfl)
      | ((with_reducible apply ends_t); case h => first | rfl | (simp only [stp, stq]; done))
      | ((with_reducible apply ends_f); case h => first | rfl | (simp only [stp, stq]; done))
    exact ends_some ⟨.inl rfl, _, rfl, rfl⟩
  · rename_i h
    rw [if_neg h]
    have stq := (c1)
    repeat first
      | ((with_reducible apply ends_bind); case h => first | (simp only [stp, stq]; first | done | rfl) | rfl)
      | ((with_reducible apply ends_t); case h => first | rfl | (simp only [stp, stq]; done))
      | ((with_reducible apply ends_f); case h => first | rfl | (simp only [stp, stq]; done))
    exact ends_some ⟨.inl rfl, _, rfl, rfl⟩
theorem le_lt2 (l : List UInt8) (h : l.length ≤ 2) : le l < 65536 := by
  have h1 := le_lt l
  have h2 : 256 ^ l.length ≤ 256 ^ 2 := Nat.pow_le_pow_right (by omega) h
  omega
theorem rnum_ev {m : Nat} (hm : 10 ≤ m) (b : List UInt8) (f : Bool) (a : Int) (ha : a < 2 ^ 63) (hb : b.length < 2 ^ 32) (n : Nat) (hn0 : 0 < n) (hn : n ≤ 4) : cf (evFn cx0 ext0 m) 43 [byt f b, .v (.int .i64 a), .v (.int .i64 n)] = some (getV .u64 b a n) := by
  obtain ⟨m, rfl⟩ : ∃ k, m = k + 1 := ⟨m - 1, by omega⟩
  have n1 := len_b f b
  unfold cf
  rw [E_r01_number]
  refine ends_cf (P := Try.prog) ?_
  unfold F_r01_number
  by_cases h1 : a < 0
  · have g1 : decide (a < 0) = true := decide_eq_true h1
    rw [show getV .u64 b a n = _ from if_pos (Or.inl h1)]
    have stq := (g1)
    repeat first
      | ((with_reducible apply ends_bind); case h => first | (simp only [stp, stq]; first | done | rfl) | rfl)
      | ((with_reducible apply ends_t); case h => first | rfl | (simp only [stp, stq]; done))
      | ((with_reducible apply ends_f); case h => first | rfl | (simp only [stp, stq]; done))
    exact ends_some ⟨.inl rfl, _, rfl, rfl⟩
  have g1 : decide (a < 0) = false := decide_eq_false h1
  by_cases h2 : (b.length : Int) < a
  · have g2 : decide ((b.length : Int) < a) = true := decide_eq_true h2
    rw [show getV .u64 b a n = _ from if_pos (Or.inr (by omega))]
    have stq := (And.intro (g1) (And.intro (g2) (n1)))
    repeat first
      | ((with_reducible apply ends_bind); case h => first | (simp only [stp, stq]; first | done | rfl) | rfl)
      | ((with_reducible apply ends_t); case h => first | rfl | (simp only [stp, stq]; done))
      | ((with_reducible apply ends_f); case h => first | rfl | (simp only [stp, stq]; done))
    exact ends_some ⟨.inl rfl, _, rfl, rfl⟩
  have g2 : decide ((b.length : Int) < a) = false := decide_eq_false h2
  have e1 : IntKind.i64.wrap ((b.length : Int) - a) = b.length - a := by rw [wrap64]; omega
  by_cases h3 : (b.length : Int) - a < n
  · have g3 : decide ((b.length : Int) - a < n) = true := decide_eq_true h3
    rw [show getV .u64 b a n = _ from if_pos (Or.inr (by omega))]
    have stq := (And.intro (g1) (And.intro (g2) (And.intro (e1) (And.intro (g3) (n1)))))
    repeat first
      | ((with_reducible apply ends_bind); case h => first | (simp only [stp, stq]; first | done | rfl) | rfl)
      | ((with_reducible apply ends_t); case h => first | rfl | (simp only [stp, stq]; done))
      | ((with_reducible apply ends_f); case h => first | rfl | (simp only [stp, stq]; done))
    exact ends_some ⟨.inl rfl, _, rfl, rfl⟩
  have g3 : decide ((b.length : Int) - a < n) = false := decide_eq_false h3
  obtain ⟨a, rfl⟩ : ∃ k : Nat, a = k := ⟨a.toNat, by omega⟩
  rw [show getV .u64 b a n = _ from if_neg (by omega : ¬ ((a : Int) < 0 ∨ (b.length : Int) < a + n))]
  have e0 : IntKind.i64.wrap ((n : Int) - 1) = n - 1 := by rw [wrap64]; omega
  have stq := (And.intro (g1) (And.intro (g2) (And.intro (e1) (And.intro (g3) (And.intro (n1) (e0))))))
  repeat first
    | ((with_reducible apply ends_bind); case h => first | (simp only [stp, stq]; first | done | rfl) | rfl)
    | ((with_reducible apply ends_t); case h => first | rfl | (simp only [stp, stq]; done))
    | ((with_reducible apply ends_f); case h => first | rfl | (simp only [stp, stq]; done))
  refine ends_loop (fun k s => ∃ (j x : Int) (y : AV), s = ⟨[(9, .v (.int .i64 j)), (8, .v (.int .u64 x)), (25, y), (7, .v (.int .i64 0)), (6, .v (.int .u64 0)), (0, byt f b), (1, .v (.int .i64 a)), (2, .v (.int .i64 n))], []⟩ ∧
    j = (k : Int) - 1 ∧ k ≤ n ∧ x = (le ((b.drop (a + k)).take (n - k)) : Nat)) n (by omega) ⟨_, _, _, rfl, rfl, by omega, by simp [le]⟩ ?_
  rintro k s ⟨j, x, y, rfl, rfl, hk, rfl⟩
  refine L_r01_number_0_lit ?_
  unfold B_r01_number_0
  rcases k with _ | k
  · have h4 : decide ((0 : Int) ≤ ((0 : Nat) : Int) - 1) = false := decide_eq_false (by omega)
    have stq := (h4)
    repeat first
      | ((with_reducible apply ends_bind); case h => first | (simp only [stp, stq]; first | done | rfl) | rfl)
      | ((with_reducible apply ends_t); case h => first | rfl | (simp only [stp, stq]; done))
      | ((with_reducible apply ends_f); case h => first | rfl | (simp only [stp, stq]; done))
    refine ends_some (.inr (.inl ⟨0, rfl, X_r01_number_0_0_lit (ends_some ⟨.inl rfl, _, rfl, ?_⟩)⟩))
    simp only [Nat.sub_zero, Nat.add_zero]
    rfl
  · have e5 : ((k + 1 : Nat) : Int) - 1 = k := by omega
    rw [e5]
    have h4 : decide ((0 : Int) ≤ (k : Int)) = true := decide_eq_true (by omega)
    have e2 : IntKind.i64.wrap ((a : Int) + k) = ((a + k : Nat) : Int) := by rw [wrap64]; omega
    have e4 : IntKind.i64.wrap ((k : Int) - 1) = (k : Int) - 1 := by rw [wrap64]; omega
    have hi : a + k < b.length := by omega
    have i1 := idx_u8 t8 b f .i64 (a + k) hi
    have hc : ∀ bx, convA Try.prog bx 5 55 (u8 b[a + k]) = some (.v (.int .u64 (b[a + k].toNat : Int)), bx) := by
      intro bx
      have : convA Try.prog bx 5 55 (u8 b[a + k]) = some (.v (.int .u64 (IntKind.u64.wrap (b[a + k].toNat : Int))), bx) := by kernel_rfl
      rw [this, wrapu64]
      have := UInt8.toNat_lt b[a + k]
      congr 4
      omega
    have hs : (b.drop (a + k)).take (n - k) = b[a + k] :: (b.drop (a + (k + 1))).take (n - (k + 1)) := by
      rw [List.drop_eq_getElem_cons hi, show n - k = (n - (k + 1)) + 1 by omega, List.take_succ_cons]
      rfl
    have hl4 := le_lt4 ((b.drop (a + (k + 1))).take (n - (k + 1))) (by rw [List.length_take]; omega)
    have o1 : IntKind.u64.wrap (IntKind.u64.wrap (256 * ((le ((b.drop (a + (k + 1))).take (n - (k + 1))) : Nat) : Int)) + (b[a + k].toNat : Int)) = ((le ((b.drop (a + k)).take (n - k)) : Nat) : Int) := by
      rw [hs, le]
      have := UInt8.toNat_lt b[a + k]
      rw [wrapu64, wrapu64]
      omega
    have stq := (And.intro (h4) (And.intro (e2) (And.intro (e4) (And.intro (i1) (And.intro (hc) (o1))))))
    repeat first
      | ((with_reducible apply ends_bind); case h => first | (simp only [stp, stq]; first | done | rfl) | rfl)
      | ((with_reducible apply ends_t); case h => first | rfl | (simp only [stp, stq]; done))
      | ((with_reducible apply ends_f); case h => first | rfl | (simp only [stp, stq]; done))
    exact ends_some (.inl ⟨rfl, k, by omega, _, _, _, rfl, by first | rfl | exact e4, by omega, by first | rfl | exact o1⟩)
theorem rGet32_ev {m : Nat} (hm : 12 ≤ m) (b : List UInt8) (f : Bool) (a : Int) (ha : a < 2 ^ 63) (hb : b.length < 2 ^ 32) : cf (evFn cx0 ext0 m) 31 [byt f b, .v (.int .i64 a)] = some (getV .u32 b a 4) := by
  obtain ⟨m, rfl⟩ : ∃ k, m = k + 1 := ⟨m - 1, by omega⟩
  have c1 : cf (evFn cx0 ext0 m) 43 [byt f b, .v (.int .i64 a), .v (.int .i64 4)] = _ := rnum_ev (m := m) (by omega) b f a ha hb 4 (by omega) (by omega)
  unfold cf
  rw [E_r01_Get32]
  refine ends_cf (P := Try.prog) ?_
  unfold F_r01_Get32
  unfold getV at c1 ⊢
  split at c1
  · rename_i h
    rw [if_pos h]
    have stq := (c1)
    repeat first
      | ((with_reducible apply ends_bind); case h => first | (simp only [stp, stq]; first | done | rfl) | rfl)
      | ((with_reducible apply ends_t); case h => first | rfl | (simp only [stp, stq]; done))
      | ((with_reducible apply ends_f); case h => first | rfl | (simp only [stp, stq]; done))
    exact ends_some ⟨.inl rfl, _, rfl, rfl⟩
  · rename_i h
    rw [if_neg h]
    have e1 : IntKind.u32.wrap ((le ((b.drop a.toNat).take 4) : Nat) : Int) = (le ((b.drop a.toNat).take 4) : Nat) := by
      have := le_lt4 ((b.drop a.toNat).take 4) (by simp; omega)
      rw [wrap32]
      omega
    have stq := (c1)
    repeat first
      | ((with_reducible apply ends_bind); case h => first | (simp only [stp, stq]; first | done | rfl) | rfl)
      | ((with_reducible apply ends_t); case h => first | rfl | (simp only [stp, stq]; done))
      | ((with_reducible apply ends_f); case h => first | rfl | (simp only [stp, stq]; done))
    exact ends_some ⟨.inl rfl, _, rfl, congrArg (fun q => AV.tup [.v (.int .u32 q), .v (.int .i64 0)]) e1⟩

theorem sb_eq (x : UInt8) (m : Nat) : sb x m false = x &&& ~~~ msk m ∧ sb x m true = (x &&& ~~~ msk m) ||| msk m := ⟨rfl, rfl⟩
/-- what 'With' answers -/
def withV (b : List UInt8) (i : Int) (on : Bool) : AV := if i < 0 ∨ 8 * b.length ≤ i then .tup [byt false [], .v (.int .i64 2)] else .tup [byt false (withB b i.toNat on), .v (.int .i64 0)]


/-! ## numbers that are put -/
theorem wr8 (y : Nat) : IntKind.u8.wrap (y : Int) = ((UInt8.ofNat y).toNat : Int) := by
  rw [wrap8, UInt8.toNat_ofNat']
  omega
/-- a number's bytes -/
def p16 (x : Nat) : List UInt8 := [UInt8.ofNat x, UInt8.ofNat (x / 256)]
def p32 (x : Nat) : List UInt8 := [UInt8.ofNat x, UInt8.ofNat (x / 256), UInt8.ofNat (x / 65536), UInt8.ofNat (x / 16777216)]
abbrev a16 (x : Nat) : AV := .agg [u8 (UInt8.ofNat x), u8 (UInt8.ofNat (x / 256))]
abbrev a32 (x : Nat) : AV := .agg [u8 (UInt8.ofNat x), u8 (UInt8.ofNat (x / 256)), u8 (UInt8.ofNat (x / 65536)), u8 (UInt8.ofNat (x / 16777216))]
theorem le_p16 (x : Nat) (h : x < 65536) : le (p16 x) = x := by
  unfold p16
  simp only [le, UInt8.toNat_ofNat']
  omega
theorem le_p32 (x : Nat) (h : x < 4294967296) : le (p32 x) = x := by
  unfold p32
  simp only [le, UInt8.toNat_ofNat']
  omega
theorem fd (x c : Nat) : (x : Int).fdiv c = ((x / c : Nat) : Int) := by
  rw [Int.fdiv_eq_ediv_of_nonneg _ (by omega)]
  simp
theorem put32_ev (m : Nat) (x : Nat) : cf (evFn cx0 ext0 (m + 10)) 51 [.v (.int .u32 x)] = some (a32 x) := by
  have h : cf (evFn cx0 ext0 (m + 10)) 51 [.v (.int .u32 x)] = some (.agg [.v (.int .u8 (IntKind.u8.wrap ((x : Int).fdiv (2 ^ 0)))), .v (.int .u8 (IntKind.u8.wrap ((x : Int).fdiv (2 ^ 8)))), .v (.int .u8 (IntKind.u8.wrap ((x : Int).fdiv (2 ^ 16)))), .v (.int .u8 (IntKind.u8.wrap ((x : Int).fdiv (2 ^ 24))))]) := by kernel_rfl
  rw [h, show (2 : Int) ^ 0 = ((1 : Nat) : Int) from rfl, show (2 : Int) ^ 8 = ((256 : Nat) : Int) from rfl, show (2 : Int) ^ 16 = ((65536 : Nat) : Int) from rfl, show (2 : Int) ^ 24 = ((16777216 : Nat) : Int) from rfl, fd, fd, fd, fd, wr8, wr8, wr8, wr8, Nat.div_one]
theorem tm (x c : Nat) (h : 256 ∣ c ∨ True) : (x : Int).tmod c = ((x % c : Nat) : Int) := by
  rw [Int.tmod_eq_emod_of_nonneg (by omega)]
  simp
theorem td (x c : Nat) : (x : Int).tdiv c = ((x / c : Nat) : Int) := by
  rw [Int.tdiv_eq_ediv_of_nonneg (by omega)]
  simp
theorem ofNat_mod (x : Nat) : UInt8.ofNat (x % 256) = UInt8.ofNat x := by
  apply UInt8.toNat_inj.1
  rw [UInt8.toNat_ofNat', UInt8.toNat_ofNat']
  omega
theorem rput32_ev (m : Nat) (x : Nat) (h : x < 4294967296) : cf (evFn cx0 ext0 (m + 1)) 55 [.v (.int .u32 x)] = some (byt false (p32 x)) := by
  have e : cf (evFn cx0 ext0 (m + 1)) 55 [.v (.int .u32 x)] = some (.sl 4 [.v (.int .u8 (IntKind.u8.wrap ((x : Int).tmod 256))), .v (.int .u8 (IntKind.u8.wrap ((IntKind.u32.wrap ((x : Int).tdiv 256)).tmod 256))), .v (.int .u8 (IntKind.u8.wrap ((IntKind.u32.wrap ((x : Int).tdiv 65536)).tmod 256))), .v (.int .u8 (IntKind.u8.wrap (IntKind.u32.wrap ((x : Int).tdiv 16777216))))] false) := by kernel_rfl
  have e1 : (x : Int).tmod 256 = ((x % 256 : Nat) : Int) := tm x 256 (.inr trivial)
  have e2 : (x : Int).tdiv 256 = ((x / 256 : Nat) : Int) := td x 256
  have e3 : (x : Int).tdiv 65536 = ((x / 65536 : Nat) : Int) := td x 65536
  have e4 : (x : Int).tdiv 16777216 = ((x / 16777216 : Nat) : Int) := td x 16777216
  have w : ∀ y : Nat, y < 4294967296 → IntKind.u32.wrap (y : Int) = y := by intro y hy; rw [wrap32]; omega
  have f2 : (((x / 256 : Nat) : Int)).tmod 256 = ((x / 256 % 256 : Nat) : Int) := tm (x / 256) 256 (.inr trivial)
  have f3 : (((x / 65536 : Nat) : Int)).tmod 256 = ((x / 65536 % 256 : Nat) : Int) := tm (x / 65536) 256 (.inr trivial)
  rw [e, e1, e2, e3, e4, w _ (by omega), w _ (by omega), w _ (by omega), f2, f3, wr8, wr8, wr8, wr8, ofNat_mod, ofNat_mod, ofNat_mod]
  rfl
end Go.Sy
