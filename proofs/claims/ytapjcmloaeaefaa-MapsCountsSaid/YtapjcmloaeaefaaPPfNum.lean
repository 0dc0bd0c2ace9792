/-
  What the functions of numbers and bits compute, as the reader reads them.
-/
import Derived.Test.YtapjcmloaeaefaaPPfBase
import Derived.Test.YtapjcmloaeaefaaPlNum
namespace Go.Sy.Pre
open Go.Proofs Num

theorem cv_8_64 (bx : Bx) (n : Int) : convA Try.prog bx 5 3 (.v (.int .u8 n)) = some (.v (.int .i64 (IntKind.i64.wrap n)), bx) := by kernel_rfl
theorem len_b (f : Bool) (b : List UInt8) : lenA Try.prog 47 (byt f b) = some (.v (.int .i64 b.length)) := by kernel_rfl
theorem w8 (x : UInt8) : IntKind.i64.wrap (x.toNat : Int) = (x.toNat : Int) := by
  have := UInt8.toNat_lt x
  rw [wrap64]
  omega
theorem nat8 (i : Nat) (h : i < 2 ^ 62) : IntKind.i64.wrap ((i : Int).tdiv 8) = ((i / 8 : Nat) : Int) ∧ (i : Int).tmod 8 = ((i % 8 : Nat) : Int) ∧ IntKind.i64.wrap ((i : Int) + 1) = ((i + 1 : Nat) : Int) := by
  refine ⟨?_, ?_, ?_⟩
  · rw [Int.tdiv_eq_ediv_of_nonneg (by omega), wrap64]; omega
  · rw [Int.tmod_eq_emod_of_nonneg (by omega)]; omega
  · rw [wrap64]; omega
theorem bitAt_eq (b : List UInt8) (i : Nat) (h : i / 8 < b.length) : bitAt b i = tb b[i / 8] (i % 8) := by
  unfold bitAt
  rw [List.getD_eq_getElem?_getD, List.getElem?_eq_getElem h]
  rfl
theorem withB_eq (b : List UInt8) (i : Nat) (on : Bool) (h : i / 8 < b.length) : withB b i on = b.set (i / 8) (sb b[i / 8] (i % 8) on) := by
  unfold withB
  rw [List.getD_eq_getElem?_getD, List.getElem?_eq_getElem h]
  rfl
/-- what 'Bit' answers -/
def bitV (b : List UInt8) (i : Int) : AV := if i < 0 ∨ 8 * b.length ≤ i then .tup [.v (.bool false), .v (.int .i64 2)] else .tup [.v (.bool (bitAt b i.toNat)), .v (.int .i64 0)]
theorem bitV_no (b : List UInt8) (i : Int) (h : i < 0 ∨ 8 * b.length ≤ i) : bitV b i = .tup [.v (.bool false), .v (.int .i64 2)] := if_pos h
theorem bitV_ok (b : List UInt8) (i : Nat) (h : i < 8 * b.length) : bitV b i = .tup [.v (.bool (bitAt b i)), .v (.int .i64 0)] := by
  unfold bitV
  rw [if_neg (by omega)]
  rfl

theorem bit_no (m : Nat) (b : List UInt8) (f : Bool) (i : Int) (h : i < 0 ∨ 8 * b.length ≤ i) (hi : i < 2 ^ 63) : cf (evFn cx0 ext0 (m + 1)) 44 [byt f b, .v (.int .i64 i)] = some (.tup [.v (.int .i64 0), .v (.int .u8 0), .v (.int .i64 2)]) := by
  have n1 := len_b f b
  unfold cf
  rw [E_num_bit]
  refine ends_cf (P := Try.prog) ?_
  unfold F_num_bit
  by_cases h1 : i < 0
  · have g1 : decide (i < 0) = true := decide_eq_true h1
    have stq := (g1)
    repeat first
      | ((with_reducible apply ends_bind); case h => first | (simp only [stp, stq]; first | done | rfl) | rfl)
      | ((with_reducible apply ends_t); case h => first | rfl | (simp only [stp, stq]; done))
      | ((with_reducible apply ends_f); case h => first | rfl | (simp only [stp, stq]; done))
    exact ends_some ⟨.inl rfl, _, rfl, rfl⟩
  · have g1 : decide (i < 0) = false := decide_eq_false h1
    have e1 : IntKind.i64.wrap (i.tdiv 8) = i / 8 := by rw [Int.tdiv_eq_ediv_of_nonneg (by omega), wrap64]; omega
    have g2 : decide ((b.length : Int) ≤ i / 8) = true := decide_eq_true (by omega)
    have stq := (And.intro (g1) (And.intro (e1) (And.intro (g2) (n1))))
    repeat first
      | ((with_reducible apply ends_bind); case h => first | (simp only [stp, stq]; first | done | rfl) | rfl)
      | ((with_reducible apply ends_t); case h => first | rfl | (simp only [stp, stq]; done))
      | ((with_reducible apply ends_f); case h => first | rfl | (simp only [stp, stq]; done))
    exact ends_some ⟨.inl rfl, _, rfl, rfl⟩
theorem bit_ok (m : Nat) (b : List UInt8) (f : Bool) (i : Nat) (h : i < 8 * b.length) (hb : b.length < 2 ^ 32) : cf (evFn cx0 ext0 (m + 1)) 44 [byt f b, .v (.int .i64 i)] = some (.tup [.v (.int .i64 (i / 8 : Nat)), u8 (msk (i % 8)), .v (.int .i64 0)]) := by
  have n1 := len_b f b
  obtain ⟨e1, e2, -⟩ := nat8 i (by omega)
  have g1 : decide ((i : Int) < 0) = false := decide_eq_false (by omega)
  have g2 : decide ((b.length : Int) ≤ ((i / 8 : Nat) : Int)) = false := decide_eq_false (by omega)
  have e3 := msk_shl (i % 8) (by omega)
  unfold cf
  rw [E_num_bit]
  refine ends_cf (P := Try.prog) ?_
  unfold F_num_bit
  have stq := (And.intro (g1) (And.intro (e1) (And.intro (g2) (And.intro (n1) (And.intro (e2) (e3))))))
  repeat first
    | ((with_reducible apply ends_bind); case h => first | (simp only [stp, stq]; first | done | rfl) | rfl)
    | ((with_reducible apply ends_t); case h => first | rfl | (simp only [stp, stq]; done))
    | ((with_reducible apply ends_f); case h => first | rfl | (simp only [stp, stq]; done))
  exact ends_some ⟨.inl rfl, _, rfl, rfl⟩

theorem Bit_ev (m : Nat) (b : List UInt8) (f : Bool) (i : Int) (hi : i < 2 ^ 63) (hb : b.length < 2 ^ 32) : cf (evFn cx0 ext0 (m + 2)) 30 [byt f b, .v (.int .i64 i)] = some (bitV b i) := by
  unfold cf
  rw [E_num_Bit]
  refine ends_cf (P := Try.prog) ?_
  unfold F_num_Bit
  by_cases h : i < 0 ∨ 8 * b.length ≤ i
  · have c1 := bit_no m b f i h hi
    rw [bitV_no b i h]
    have q1 : ((2 : Int) == 0) = false := rfl
    have stq := (And.intro (c1) (q1))
    repeat first
      | ((with_reducible apply ends_bind); case h => first | (simp only [stp, stq]; first | done | rfl) | rfl)
      | ((with_reducible apply ends_t); case h => first | rfl | (simp only [stp, stq]; done))
      | ((with_reducible apply ends_f); case h => first | rfl | (simp only [stp, stq]; done))
    exact ends_some ⟨.inl rfl, _, rfl, rfl⟩
  · obtain ⟨i, rfl⟩ : ∃ k : Nat, i = k := ⟨i.toNat, by omega⟩
    have h8 : i / 8 < b.length := by omega
    have c1 := bit_ok m b f i (by omega) hb
    rw [bitV_ok b i (by omega)]
    have i1 := idx_u8 t8 b f .i64 (i / 8) h8
    have a1 := and8 b[i / 8] (msk (i % 8))
    have a2 := and_msk b[i / 8] (i % 8) (by omega)
    rw [← bitAt_eq b i h8] at a2
    have stq := (And.intro (c1) (And.intro (i1) (And.intro (a1) (a2))))
    repeat first
      | ((with_reducible apply ends_bind); case h => first | (simp only [stp, stq]; first | done | rfl) | rfl)
      | ((with_reducible apply ends_t); case h => first | rfl | (simp only [stp, stq]; done))
      | ((with_reducible apply ends_f); case h => first | rfl | (simp only [stp, stq]; done))
    exact ends_some ⟨.inl rfl, _, rfl, rfl⟩

theorem power_ev (n : Nat) (hn : 20 ≤ n) (k : Nat) (hk : k < 8) : cf (evFn cx0 ext0 n) 46 [.v (.int .i64 k)] = some (.v (.int .i64 (2 ^ k))) := by
  obtain ⟨m, rfl⟩ : ∃ m, n = m + 20 := ⟨n - 20, by omega⟩
  rcases k with _ | _ | _ | _ | _ | _ | _ | _ | k
  · kernel_rfl
  · kernel_rfl
  · kernel_rfl
  · kernel_rfl
  · kernel_rfl
  · kernel_rfl
  · kernel_rfl
  · kernel_rfl
  · omega

theorem pow_ne (k : Nat) : (2 : Int) ^ k ≠ 0 := by
  have := Int.pow_pos (n := 2) (m := k) (by omega)
  omega
theorem quo_pow (x : UInt8) (k : Nat) (hk : k < 8) : binA Try.prog .quo 3 (.v (.int .i64 (x.toNat : Int))) (.v (.int .i64 (2 ^ k))) = some (.v (.int .i64 ((x.toNat : Int).tdiv (2 ^ k)))) := by
  rw [bin_quo _ _ _ _ _ (pow_ne k)]
  have h1 : (1 : Int) ≤ 2 ^ k := by
    have := Int.pow_pos (n := 2) (m := k) (by omega)
    omega
  have h2 := UInt8.toNat_lt x
  have h3 : (x.toNat : Int).tdiv (2 ^ k) = (x.toNat : Int) / (2 ^ k) := Int.tdiv_eq_ediv_of_nonneg (by omega)
  have h4 : (x.toNat : Int) / (2 ^ k) ≤ x.toNat := Int.ediv_le_self _ (by omega)
  have h5 : 0 ≤ (x.toNat : Int) / (2 ^ k) := Int.ediv_nonneg (by omega) (by omega)
  have h6 : IntKind.i64.wrap ((x.toNat : Int).tdiv (2 ^ k)) = (x.toNat : Int).tdiv (2 ^ k) := by
    rw [h3]
    generalize (x.toNat : Int) / (2 ^ k) = q at *
    rw [wrap64]
    omega
  rw [h6]
theorem rBit_ev (n : Nat) (hn : 22 ≤ n) (b : List UInt8) (f : Bool) (i : Int) (hi : i < 2 ^ 63) (hb : b.length < 2 ^ 32) : cf (evFn cx0 ext0 n) 35 [byt f b, .v (.int .i64 i)] = some (bitV b i) := by
  obtain ⟨m, rfl⟩ : ∃ m, n = m + 1 := ⟨n - 1, by omega⟩
  have n1 := len_b f b
  unfold cf
  rw [E_r01_Bit]
  refine ends_cf (P := Try.prog) ?_
  unfold F_r01_Bit
  by_cases h1 : i < 0
  · have g1 : decide (i < 0) = true := decide_eq_true h1
    rw [bitV_no b i (.inl h1)]
    have stq := (g1)
    repeat first
      | ((with_reducible apply ends_bind); case h => first | (simp only [stp, stq]; first | done | rfl) | rfl)
      | ((with_reducible apply ends_t); case h => first | rfl | (simp only [stp, stq]; done))
      | ((with_reducible apply ends_f); case h => first | rfl | (simp only [stp, stq]; done))
    exact ends_some ⟨.inl rfl, _, rfl, rfl⟩
  · have g1 : decide (i < 0) = false := decide_eq_false h1
    obtain ⟨i, rfl⟩ : ∃ k : Nat, i = k := ⟨i.toNat, by omega⟩
    have e1 : IntKind.i64.wrap ((i : Int).tdiv 8) = ((i / 8 : Nat) : Int) := by rw [Int.tdiv_eq_ediv_of_nonneg (by omega), wrap64]; omega
    have e2 : (i : Int).tmod 8 = ((i % 8 : Nat) : Int) := by rw [Int.tmod_eq_emod_of_nonneg (by omega)]; omega
    by_cases h : 8 * b.length ≤ i
    · have g2 : decide ((b.length : Int) ≤ ((i / 8 : Nat) : Int)) = true := decide_eq_true (by omega)
      rw [bitV_no b i (.inr (by omega))]
      have stq := (And.intro (g1) (And.intro (e1) (And.intro (g2) (n1))))
      repeat first
        | ((with_reducible apply ends_bind); case h => first | (simp only [stp, stq]; first | done | rfl) | rfl)
        | ((with_reducible apply ends_t); case h => first | rfl | (simp only [stp, stq]; done))
        | ((with_reducible apply ends_f); case h => first | rfl | (simp only [stp, stq]; done))
      exact ends_some ⟨.inl rfl, _, rfl, rfl⟩
    · have g2 : decide ((b.length : Int) ≤ ((i / 8 : Nat) : Int)) = false := decide_eq_false (by omega)
      have h8 : i / 8 < b.length := by omega
      have i1 := idx_u8 t8 b f .i64 (i / 8) h8
      have p1 := power_ev m (by omega) (i % 8) (by omega)
      have q1 := quo_pow b[i / 8] (i % 8) (by omega)
      have q2 := div_pow b[i / 8] (i % 8) (by omega)
      rw [← bitAt_eq b i h8] at q2
      have w := w8 b[i / 8]
      rw [bitV_ok b i (by omega)]
      have stq := (And.intro (g1) (And.intro (e1) (And.intro (g2) (And.intro (n1) (And.intro (e2) (And.intro (i1) (And.intro (cv_8_64) (And.intro (w) (And.intro (p1) (And.intro (q1) (q2)))))))))))
      repeat first
        | ((with_reducible apply ends_bind); case h => first | (simp only [stp, stq]; first | done | rfl) | rfl)
        | ((with_reducible apply ends_t); case h => first | rfl | (simp only [stp, stq]; done))
        | ((with_reducible apply ends_f); case h => first | rfl | (simp only [stp, stq]; done))
      exact ends_some ⟨.inl rfl, _, rfl, rfl⟩

theorem some_ev (m : Nat) (b : List UInt8) (f : Bool) (n : Int) (hb : b.length < 2 ^ 32) : cf (evFn cx0 ext0 (m + 1)) 43 [byt f b, .v (.int .i64 n)] = some (.v (.int .i64 (((min n (8 * b.length)).toNat : Nat) : Int))) := by
  have n1 := len_b f b
  have e1 : IntKind.i64.wrap (8 * (b.length : Int)) = 8 * b.length := by rw [wrap64]; omega
  have e2 : max 0 (min n (8 * (b.length : Int))) = (((min n (8 * b.length)).toNat : Nat) : Int) := by omega
  unfold cf
  rw [E_num_some]
  refine ends_cf (P := Try.prog) ?_
  unfold F_num_some
  have stq := (And.intro (n1) (And.intro (e1) (e2)))
  repeat first
    | ((with_reducible apply ends_bind); case h => first | (simp only [stp, stq]; first | done | rfl) | rfl)
    | ((with_reducible apply ends_t); case h => first | rfl | (simp only [stp, stq]; done))
    | ((with_reducible apply ends_f); case h => first | rfl | (simp only [stp, stq]; done))
  exact ends_some ⟨.inl rfl, _, rfl, rfl⟩
/-- how many of so many bits there are -/
def lim (b : List UInt8) (n : Int) : Nat := (min n (8 * b.length)).toNat
theorem lim_le (b : List UInt8) (n : Int) : lim b n ≤ 8 * b.length := by unfold lim; omega

theorem Count_ev {n : Nat} (b : List UInt8) (f : Bool) (z : Int) (hb : b.length < 2 ^ 32) (hn : 8 * b.length + 5 ≤ n) : cf (evFn cx0 ext0 n) 38 [byt f b, .v (.int .i64 z)] = some (.v (.int .i64 (cnt b 0 (lim b z) : Nat))) := by
  obtain ⟨m, rfl⟩ : ∃ m, n = m + 1 := ⟨n - 1, by omega⟩
  obtain ⟨m', rfl⟩ : ∃ m', m = m' + 1 := ⟨m - 1, by omega⟩
  have s1 : cf (evFn cx0 ext0 (m' + 1)) 43 [byt f b, .v (.int .i64 z)] = some (.v (.int .i64 (lim b z : Nat))) := some_ev m' b f z hb
  have hl := lim_le b z
  generalize lim b z = N at *
  unfold cf
  rw [E_num_Count]
  refine ends_cf (P := Try.prog) ?_
  unfold F_num_Count
  have stq := (s1)
  repeat first
    | ((with_reducible apply ends_bind); case h => first | (simp only [stp, stq]; first | done | rfl) | rfl)
    | ((with_reducible apply ends_t); case h => first | rfl | (simp only [stp, stq]; done))
    | ((with_reducible apply ends_f); case h => first | rfl | (simp only [stp, stq]; done))
  refine ends_loop (fun k s => ∃ (j x : Int), s = ⟨[(10, .v (.int .i64 j)), (9, .v (.int .i64 N)), (5, .v (.int .i64 x)), (4, .v (.int .i64 0)), (0, byt f b), (1, .v (.int .i64 z))], []⟩ ∧
    ∃ (i c : Nat), j = i ∧ x = c ∧ i + k = N ∧ c ≤ i ∧ c + cnt b i k = cnt b 0 N) N (by omega) ⟨_, _, rfl, 0, 0, rfl, rfl, by omega, by omega, by omega⟩ ?_
  rintro k s ⟨j, x, rfl, i, c, rfl, rfl, hk, hc, hr⟩
  refine L_num_Count_0_lit ?_
  unfold B_num_Count_0
  rcases k with _ | k
  · have h1 : decide ((i : Int) < (N : Int)) = false := decide_eq_false (by omega)
    have stq := (h1)
    repeat first
      | ((with_reducible apply ends_bind); case h => first | (simp only [stp, stq]; first | done | rfl) | rfl)
      | ((with_reducible apply ends_t); case h => first | rfl | (simp only [stp, stq]; done))
      | ((with_reducible apply ends_f); case h => first | rfl | (simp only [stp, stq]; done))
    exact ends_some (.inr (.inl ⟨0, rfl, X_num_Count_0_0_lit (ends_some ⟨.inl rfl, _, rfl, by rw [← hr]; rfl⟩)⟩))
  · have h1 : decide ((i : Int) < (N : Int)) = true := decide_eq_true (by omega)
    have h8 : i / 8 < b.length := by omega
    obtain ⟨e1, e2, e3⟩ := nat8 i (by omega)
    have i1 := idx_u8 t8 b f .i64 (i / 8) h8
    have a1 := shr_and b[i / 8] (i % 8) (by omega)
    rw [← bitAt_eq b i h8] at a1
    have stq := (And.intro (h1) (And.intro (e1) (And.intro (e2) (And.intro (e3) (And.intro (i1) (And.intro (a1) (cv_8_64)))))))
    repeat first
      | ((with_reducible apply ends_bind); case h => first | (simp only [stp, stq]; first | done | rfl) | rfl)
      | ((with_reducible apply ends_t); case h => first | rfl | (simp only [stp, stq]; done))
      | ((with_reducible apply ends_f); case h => first | rfl | (simp only [stp, stq]; done))
    refine ends_some (.inl ⟨rfl, k, by omega, _, _, rfl, i + 1, c + (if bitAt b i then 1 else 0), by first | rfl | exact e3, ?_, by omega, by split <;> omega, by rw [← hr, cnt]; omega⟩)
    cases bitAt b i
    · show IntKind.i64.wrap ((c : Int) + IntKind.i64.wrap 0) = _
      rw [wrap64, wrap64]
      simp
      omega
    · show IntKind.i64.wrap ((c : Int) + IntKind.i64.wrap 1) = _
      rw [wrap64, wrap64]
      simp
      omega


/-- from where a search goes on -/
def frm (z : Int) : Nat := (max z 0).toNat
/-- what 'First' answers -/
def fstV (b : List UInt8) (from_ z : Int) : Int := fst0 b (frm from_) (lim b z - frm from_)

theorem First_ev {n : Nat} (b : List UInt8) (f : Bool) (a z : Int) (ha : a < 2 ^ 63) (hb : b.length < 2 ^ 32) (hn : 8 * b.length + 30 ≤ n) : cf (evFn cx0 ext0 n) 27 [byt f b, .v (.int .i64 a), .v (.int .i64 z)] = some (.v (.int .i64 (fstV b a z))) := by
  obtain ⟨m, rfl⟩ : ∃ m, n = m + 1 := ⟨n - 1, by omega⟩
  obtain ⟨m', rfl⟩ : ∃ m', m = m' + 2 := ⟨m - 2, by omega⟩
  have s1 : cf (evFn cx0 ext0 (m' + 2)) 43 [byt f b, .v (.int .i64 z)] = some (.v (.int .i64 (lim b z : Nat))) := some_ev (m' + 1) b f z hb
  have hl := lim_le b z
  unfold fstV
  generalize lim b z = N at *
  have hm : max a 0 = (frm a : Int) := by unfold frm; omega
  have hf : frm a < 2 ^ 63 := by unfold frm; omega
  generalize frm a = q at *
  unfold cf
  rw [E_num_First]
  refine ends_cf (P := Try.prog) ?_
  unfold F_num_First
  have stq := (hm)
  repeat first
    | ((with_reducible apply ends_bind); case h => first | (simp only [stp, stq]; first | done | rfl) | rfl)
    | ((with_reducible apply ends_t); case h => first | rfl | (simp only [stp, stq]; done))
    | ((with_reducible apply ends_f); case h => first | rfl | (simp only [stp, stq]; done))
  refine ends_loop (fun k s => ∃ (j : Int), s = ⟨[(7, .v (.int .i64 j)), (6, .v (.int .i64 0)), (0, byt f b), (1, .v (.int .i64 a)), (2, .v (.int .i64 z))], []⟩ ∧
    ∃ (i : Nat), j = i ∧ i + k = max q N ∧ i < 2 ^ 63 ∧ fst0 b i (N - i) = fst0 b q (N - q) ∧ k ≤ N - q) (N - q) (by omega) ⟨_, rfl, q, rfl, by omega, hf, rfl, by omega⟩ ?_
  rintro k s ⟨j, rfl, i, rfl, hk, hi, hr, hkq⟩
  refine L_num_First_0_lit ?_
  unfold B_num_First_0
  by_cases h1 : i < N
  · have g1 : decide ((i : Int) < (N : Int)) = true := decide_eq_true (by omega)
    have c1 : cf (evFn cx0 ext0 (m' + 2)) 30 [byt f b, .v (.int .i64 i)] = _ := Bit_ev m' b f i (by omega) hb
    rw [bitV_ok b i (by omega)] at c1
    obtain ⟨d, hd⟩ : ∃ d, N - i = d + 1 := ⟨N - i - 1, by omega⟩
    rw [hd, fst0] at hr
    have e3 : IntKind.i64.wrap ((i : Int) + 1) = ((i + 1 : Nat) : Int) := by rw [wrap64]; omega
    cases hbit : bitAt b i
    · rw [hbit] at c1 hr
      have nb : (!false) = true := rfl
      have stq := (And.intro (s1) (And.intro (g1) (And.intro (c1) (nb))))
      repeat first
        | ((with_reducible apply ends_bind); case h => first | (simp only [stp, stq]; first | done | rfl) | rfl)
        | ((with_reducible apply ends_t); case h => first | rfl | (simp only [stp, stq]; done))
        | ((with_reducible apply ends_f); case h => first | rfl | (simp only [stp, stq]; done))
      refine ends_some (.inr (.inr ⟨rfl, .inl rfl, _, rfl, ?_⟩))
      rw [← hr]
      rfl
    · rw [hbit] at c1 hr
      have nb : (!true) = false := rfl
      have stq := (And.intro (s1) (And.intro (g1) (And.intro (c1) (And.intro (nb) (e3)))))
      repeat first
        | ((with_reducible apply ends_bind); case h => first | (simp only [stp, stq]; first | done | rfl) | rfl)
        | ((with_reducible apply ends_t); case h => first | rfl | (simp only [stp, stq]; done))
        | ((with_reducible apply ends_f); case h => first | rfl | (simp only [stp, stq]; done))
      exact ends_some (.inl ⟨rfl, k - 1, by omega, _, rfl, i + 1, by first | rfl | exact e3, by omega, by omega, by rw [← hr, if_pos rfl, show N - (i + 1) = d by omega], by omega⟩)
  · have g1 : decide ((i : Int) < (N : Int)) = false := decide_eq_false (by omega)
    have stq := (And.intro (s1) (g1))
    repeat first
      | ((with_reducible apply ends_bind); case h => first | (simp only [stp, stq]; first | done | rfl) | rfl)
      | ((with_reducible apply ends_t); case h => first | rfl | (simp only [stp, stq]; done))
      | ((with_reducible apply ends_f); case h => first | rfl | (simp only [stp, stq]; done))
    refine ends_some (.inr (.inl ⟨0, rfl, X_num_First_0_0_lit (ends_some ⟨.inl rfl, _, rfl, ?_⟩)⟩))
    rw [← hr, show N - i = 0 by omega, fst0]
    rfl


/-- what 'get' answers -/
def getV (k : IntKind) (b : List UInt8) (a : Int) (n : Nat) : AV := if a < 0 ∨ b.length < a + n then .tup [.v (.int k 0), .v (.int .i64 7)] else .tup [.v (.int k (le ((b.drop a.toNat).take n) : Nat)), .v (.int .i64 0)]

theorem le_lt2 (l : List UInt8) (h : l.length ≤ 2) : le l < 65536 := by
  have h1 := le_lt l
  have h2 : 256 ^ l.length ≤ 256 ^ 2 := Nat.pow_le_pow_right (by omega) h
  omega

theorem sb_eq (x : UInt8) (m : Nat) : sb x m false = x &&& ~~~ msk m ∧ sb x m true = (x &&& ~~~ msk m) ||| msk m := ⟨rfl, rfl⟩
/-- what 'With' answers -/
def withV (b : List UInt8) (i : Int) (on : Bool) : AV := if i < 0 ∨ 8 * b.length ≤ i then .tup [byt false [], .v (.int .i64 2)] else .tup [byt false (withB b i.toNat on), .v (.int .i64 0)]

theorem clone_raw (m : Nat) (f : Bool) (b : List UInt8) (h0 : 0 < b.length) (hb : b.length < 2 ^ 32) : ∃ bx', evFn cx0 ext0 (m + 1) 45 [byt f b] [] = some (.bsl 1 0 b.length 1, bx') ∧ bx'[1]? = some (u8l b) := by
  refine ⟨[[], u8l b], ?_, rfl⟩
  have e1 : binA Try.prog .eql 47 (byt f b) (.v (.slice none 0 0)) = some (.v (.bool false)) := by
    have h : binA Try.prog .eql 47 (byt f b) (.v (.slice none 0 0)) = if 0 < b.length then some (.v (.bool false)) else none := by kernel_rfl
    rw [h, if_pos h0]
  rw [E_slices_Clone_byte_byte]
  refine ends_fin (P := Try.prog) ?_
  unfold F_slices_Clone_byte_byte
  have stq := (e1)
  repeat first
    | ((with_reducible apply ends_bind); case h => first | (simp only [stp, stq]; first | done | rfl) | rfl)
    | ((with_reducible apply ends_t); case h => first | rfl | (simp only [stp, stq]; done))
    | ((with_reducible apply ends_f); case h => first | rfl | (simp only [stp, stq]; done))
  refine ends_bind _ (appV t8 0 _ _ 1 [] b 0 rfl (by omega) rfl hb (by simp) rfl) ?_
  refine ends_some ⟨.inl rfl, _, rfl, ?_⟩
  show (AV.bsl 1 0 (0 + b.length) 1, [[], u8l ([] ++ b)]) = _
  simp
theorem With_ev {n : Nat} (hn : 6 ≤ n) (b : List UInt8) (f : Bool) (i : Int) (on : Bool) (hi : i < 2 ^ 63) (hb : b.length < 2 ^ 32) : cf (evFn cx0 ext0 n) 32 [byt f b, .v (.int .i64 i), .v (.bool on)] = some (withV b i on) := by
  obtain ⟨m, rfl⟩ : ∃ k, n = k + 2 := ⟨n - 2, by omega⟩
  have md : ∀ E bx args, callA E md_num_With bx 44 args = (cf E 44 (args.map (frz bx true 6))).map (fun r => (r, bx)) := fun E bx args => callA_frozen rfl bx args
  unfold cf
  rw [E_num_With]
  refine ends_cf (P := Try.prog) ?_
  unfold F_num_With
  by_cases h : i < 0 ∨ 8 * b.length ≤ i
  · have c1 := bit_no m b f i h hi
    rw [show withV b i on = _ from if_pos h]
    have q1 : ((2 : Int) != 0) = true := rfl
    have stq := (And.intro (c1) (And.intro (q1) (md)))
    repeat first
      | ((with_reducible apply ends_bind); case h => first | (simp only [stp, stq]; first | done | rfl) | rfl)
      | ((with_reducible apply ends_t); case h => first | rfl | (simp only [stp, stq]; done))
      | ((with_reducible apply ends_f); case h => first | rfl | (simp only [stp, stq]; done))
    exact ends_some ⟨.inl rfl, _, rfl, rfl⟩
  · obtain ⟨i, rfl⟩ : ∃ k : Nat, i = k := ⟨i.toNat, by omega⟩
    have h8 : i / 8 < b.length := by omega
    have c1 := bit_ok m b f i (by omega) hb
    rw [show withV b i on = _ from if_neg h]
    simp only [Int.toNat_natCast]
    obtain ⟨bx', hr, hx⟩ := clone_raw m f b (by omega) hb
    have b1 : callA (evFn cx0 ext0 (m + 1)) md_num_With [[]] 45 [byt f b] = some (.bsl 1 0 b.length 1, [[], u8l b]) := by
      rw [callA_boxed (bx := [[]]) (args := [byt f b]) rfl (by
        show evFn cx0 ext0 (m + 1) 45 [frz [[]] true 6 (byt f b)] [] = _
        rw [frz_byt]
        exact hr), hx]
      simp [u8l_take, u8l_bare]
    have i1 := idx_b8 t8 1 0 b.length .i64 (i / 8) h8
    rw [Nat.zero_add] at i1
    have q1 := ld_b8 (P := Try.prog) (t := 5) (by kernel_rfl) (by kernel_rfl) [[], u8l b] 1 (i / 8) b rfl h8
    have x1 := andNot8 b[i / 8] (msk (i % 8))
    have q2 := st_b8 (P := Try.prog) (t := 5) (by kernel_rfl) [[], u8l b] 1 (i / 8) b (b[i / 8] &&& ~~~ msk (i % 8)) rfl h8
    simp only [List.set_cons_zero, List.set_cons_succ] at q2
    cases on
    · skip
      have stq := (And.intro (c1) (And.intro (md) (And.intro (b1) (And.intro (i1) (And.intro (q1) (And.intro (x1) (q2)))))))
      repeat first
        | ((with_reducible apply ends_bind); case h => first | (simp only [stp, stq]; first | done | rfl) | rfl)
        | ((with_reducible apply ends_t); case h => first | rfl | (simp only [stp, stq]; done))
        | ((with_reducible apply ends_f); case h => first | rfl | (simp only [stp, stq]; done))
      refine ends_some ⟨.inl rfl, _, rfl, ?_⟩
      show AV.tup [frz _ false 5 (.bsl 1 0 b.length 1), .v (.int .i64 0)] = _
      rw [frz_b8 (b := b.set (i / 8) (b[i / 8] &&& ~~~ msk (i % 8))) false rfl (by simp), withB_eq b i false h8]
      rfl
    · have q3 := ld_b8 (P := Try.prog) (t := 5) (by kernel_rfl) (by kernel_rfl) [[], u8l (b.set (i / 8) (b[i / 8] &&& ~~~ msk (i % 8)))] 1 (i / 8) (b.set (i / 8) (b[i / 8] &&& ~~~ msk (i % 8))) rfl (by simpa using h8)
      rw [List.getElem_set_self] at q3
      have x2 := or8 (b[i / 8] &&& ~~~ msk (i % 8)) (msk (i % 8))
      have q4 := st_b8 (P := Try.prog) (t := 5) (by kernel_rfl) [[], u8l (b.set (i / 8) (b[i / 8] &&& ~~~ msk (i % 8)))] 1 (i / 8) (b.set (i / 8) (b[i / 8] &&& ~~~ msk (i % 8))) ((b[i / 8] &&& ~~~ msk (i % 8)) ||| msk (i % 8)) rfl (by simpa using h8)
      simp only [List.set_cons_zero, List.set_cons_succ, List.set_set] at q4
      have stq := (And.intro (c1) (And.intro (md) (And.intro (b1) (And.intro (i1) (And.intro (q1) (And.intro (x1) (And.intro (q2) (And.intro (q3) (And.intro (x2) (q4))))))))))
      repeat first
        | ((with_reducible apply ends_bind); case h => first | (simp only [stp, stq]; first | done | rfl) | rfl)
        | ((with_reducible apply ends_t); case h => first | rfl | (simp only [stp, stq]; done))
        | ((with_reducible apply ends_f); case h => first | rfl | (simp only [stp, stq]; done))
      refine ends_some ⟨.inl rfl, _, rfl, ?_⟩
      show AV.tup [frz _ false 5 (.bsl 1 0 b.length 1), .v (.int .i64 0)] = _
      rw [frz_b8 (b := b.set (i / 8) ((b[i / 8] &&& ~~~ msk (i % 8)) ||| msk (i % 8))) false rfl (by simp), withB_eq b i true h8]
      rfl
theorem rWith_ev {n : Nat} (hn : 30 ≤ n) (b : List UInt8) (f : Bool) (i : Int) (on : Bool) (hi : i < 2 ^ 63) (hb : b.length < 2 ^ 32) : cf (evFn cx0 ext0 n) 36 [byt f b, .v (.int .i64 i), .v (.bool on)] = some (withV b i on) := by
  obtain ⟨m, rfl⟩ : ∃ k, n = k + 1 := ⟨n - 1, by omega⟩
  have c1 := rBit_ev m (by omega) b f i hi hb
  unfold cf
  rw [E_r01_With]
  refine ends_cf (P := Try.prog) ?_
  unfold F_r01_With
  by_cases h : i < 0 ∨ 8 * b.length ≤ i
  · rw [bitV_no b i h] at c1
    rw [show withV b i on = _ from if_pos h]
    have q1 : ((2 : Int) != 0) = true := rfl
    have stq := (And.intro (c1) (q1))
    repeat first
      | ((with_reducible apply ends_bind); case h => first | (simp only [stp, stq]; first | done | rfl) | rfl)
      | ((with_reducible apply ends_t); case h => first | rfl | (simp only [stp, stq]; done))
      | ((with_reducible apply ends_f); case h => first | rfl | (simp only [stp, stq]; done))
    exact ends_some ⟨.inl rfl, _, rfl, rfl⟩
  · obtain ⟨i, rfl⟩ : ∃ k : Nat, i = k := ⟨i.toNat, by omega⟩
    have h8 : i / 8 < b.length := by omega
    rw [bitV_ok b i (by omega)] at c1
    rw [show withV b i on = _ from if_neg h]
    simp only [Int.toNat_natCast]
    have e1 : IntKind.i64.wrap ((i : Int).tdiv 8) = ((i / 8 : Nat) : Int) := by rw [Int.tdiv_eq_ediv_of_nonneg (by omega), wrap64]; omega
    have e2 : (i : Int).tmod 8 = ((i % 8 : Nat) : Int) := by rw [Int.tmod_eq_emod_of_nonneg (by omega)]; omega
    have b0 : ∀ bx, buildSliceA Try.prog bx 47 0 [] = some (.bsl bx.length 0 0 1, bx ++ [[]]) := fun bx => by kernel_rfl
    have a1 : appA Try.prog 0 [[], []] 47 (.bsl 1 0 0 1) (byt f b) = some (.bsl 1 0 b.length 1, AV.keep (· != 1), [[], u8l b]) := by
      rw [appV t8 0 _ _ 1 [] b 0 rfl (by omega) rfl hb (by simp) rfl]
      simp
    have k1 : ∀ p x, AV.keep p (.v x) = .v x := fun _ _ => rfl
    have p1 := power_ev m (by omega) (i % 8) (by omega)
    have i1 := idx_b8 t8 1 0 b.length .i64 (i / 8) h8
    rw [Nat.zero_add] at i1
    have q1 := ld_b8 (P := Try.prog) (t := 5) (by kernel_rfl) (by kernel_rfl) [[], u8l b] 1 (i / 8) b rfl h8
    have cv : ∀ bx n, convA Try.prog bx 3 5 (.v (.int .i64 n)) = some (.v (.int .u8 (IntKind.u8.wrap n)), bx) := fun bx n => by kernel_rfl
    have hbe := bitAt_eq b i h8
    have same : bitAt b i = on → withB b i on = b := by
      intro he
      rw [withB_eq b i on h8, ← he, hbe, sb_same _ _ (by omega), List.set_getElem_self]
    have fin2 : withB b i on = b → ∀ A, AV.tup [frz [A, u8l b] false 5 (.bsl 1 0 b.length 1), .v (.int .i64 0)] = .tup [byt false (withB b i on), .v (.int .i64 0)] := by
      intro he A
      rw [he, frz_b8 (b := b) false rfl rfl]
    have fin3 : ∀ A, AV.tup [frz [A, u8l (b.set (i / 8) (sb b[i / 8] (i % 8) on))] false 5 (.bsl 1 0 b.length 1), .v (.int .i64 0)] = .tup [byt false (withB b i on), .v (.int .i64 0)] := by
      intro A
      rw [frz_b8 (b := b.set (i / 8) (sb b[i / 8] (i % 8) on)) false rfl (by simp), withB_eq b i on h8]
    have q2 := st_b8 (P := Try.prog) (t := 5) (by kernel_rfl) [[], u8l b] 1 (i / 8) b (sb b[i / 8] (i % 8) on) rfl h8
    simp only [List.set_cons_zero, List.set_cons_succ] at q2
    cases hbit : bitAt b i
    · rw [hbit] at c1 hbe
      cases on
      · skip
        have stq := (And.intro (c1) (And.intro (b0) (And.intro (a1) (k1))))
        repeat first
          | ((with_reducible apply ends_bind); case h => first | (simp only [stp, stq]; first | done | rfl) | rfl)
          | ((with_reducible apply ends_t); case h => first | rfl | (simp only [stp, stq]; done))
          | ((with_reducible apply ends_f); case h => first | rfl | (simp only [stp, stq]; done))
        exact ends_some ⟨.inl rfl, _, rfl, fin2 (same hbit) _⟩
      · have x1 := add_msk b[i / 8] (i % 8) (by omega) hbe.symm
        have nb : (!false) = true := rfl
        have nb2 : (!true) = false := rfl
        have stq := (And.intro (c1) (And.intro (b0) (And.intro (a1) (And.intro (k1) (And.intro (nb) (And.intro (nb2) (And.intro (e1) (And.intro (e2) (And.intro (p1) (And.intro (i1) (And.intro (q1) (And.intro (cv) (And.intro (x1) (q2))))))))))))))
        repeat first
          | ((with_reducible apply ends_bind); case h => first | (simp only [stp, stq]; first | done | rfl) | rfl)
          | ((with_reducible apply ends_t); case h => first | rfl | (simp only [stp, stq]; done))
          | ((with_reducible apply ends_f); case h => first | rfl | (simp only [stp, stq]; done))
        exact ends_some ⟨.inl rfl, _, rfl, fin3 _⟩
    · rw [hbit] at c1 hbe
      cases on
      · have x1 := sub_msk b[i / 8] (i % 8) (by omega) hbe.symm
        have nb : (!false) = true := rfl
        have nb2 : (!true) = false := rfl
        have stq := (And.intro (c1) (And.intro (b0) (And.intro (a1) (And.intro (k1) (And.intro (nb) (And.intro (nb2) (And.intro (e1) (And.intro (e2) (And.intro (p1) (And.intro (i1) (And.intro (q1) (And.intro (cv) (And.intro (x1) (q2))))))))))))))
        repeat first
          | ((with_reducible apply ends_bind); case h => first | (simp only [stp, stq]; first | done | rfl) | rfl)
          | ((with_reducible apply ends_t); case h => first | rfl | (simp only [stp, stq]; done))
          | ((with_reducible apply ends_f); case h => first | rfl | (simp only [stp, stq]; done))
        exact ends_some ⟨.inl rfl, _, rfl, fin3 _⟩
      · have nb : (!false) = true := rfl
        have nb2 : (!true) = false := rfl
        have stq := (And.intro (c1) (And.intro (b0) (And.intro (a1) (And.intro (k1) (And.intro (nb) (nb2))))))
        repeat first
          | ((with_reducible apply ends_bind); case h => first | (simp only [stp, stq]; first | done | rfl) | rfl)
          | ((with_reducible apply ends_t); case h => first | rfl | (simp only [stp, stq]; done))
          | ((with_reducible apply ends_f); case h => first | rfl | (simp only [stp, stq]; done))
        exact ends_some ⟨.inl rfl, _, rfl, fin2 (same hbit) _⟩

/-! ## numbers that are put -/
theorem wr8 (y : Nat) : IntKind.u8.wrap (y : Int) = ((UInt8.ofNat y).toNat : Int) := by
  rw [wrap8, UInt8.toNat_ofNat']
  omega
/-- a number's bytes -/
def p16 (x : Nat) : List UInt8 := [UInt8.ofNat x, UInt8.ofNat (x / 256)]
def p32 (x : Nat) : List UInt8 := [UInt8.ofNat x, UInt8.ofNat (x / 256), UInt8.ofNat (x / 65536), UInt8.ofNat (x / 16777216)]
abbrev a16 (x : Nat) : AV := .agg [u8 (UInt8.ofNat x), u8 (UInt8.ofNat (x / 256))]
abbrev a32 (x : Nat) : AV := .agg [u8 (UInt8.ofNat x), u8 (UInt8.ofNat (x / 256)), u8 (UInt8.ofNat (x / 65536)), u8 (UInt8.ofNat (x / 16777216))]
theorem le_p16 (x : Nat) (h : x < 65536) : le (p16 x) = x := by
  unfold p16
  simp only [le, UInt8.toNat_ofNat']
  omega
theorem le_p32 (x : Nat) (h : x < 4294967296) : le (p32 x) = x := by
  unfold p32
  simp only [le, UInt8.toNat_ofNat']
  omega
theorem fd (x c : Nat) : (x : Int).fdiv c = ((x / c : Nat) : Int) := by
  rw [Int.fdiv_eq_ediv_of_nonneg _ (by omega)]
  simp
theorem put16_ev (m : Nat) (x : Nat) : cf (evFn cx0 ext0 (m + 1)) 33 [.v (.int .u16 x)] = some (a16 x) := by
  have h : cf (evFn cx0 ext0 (m + 1)) 33 [.v (.int .u16 x)] = some (.agg [.v (.int .u8 (IntKind.u8.wrap x)), .v (.int .u8 (IntKind.u8.wrap ((x : Int).fdiv (2 ^ (min (8 : Int).toNat IntKind.u16.bits)))))]) := by kernel_rfl
  rw [h, show (2 : Int) ^ (min (8 : Int).toNat IntKind.u16.bits) = ((256 : Nat) : Int) from rfl, fd, wr8, wr8]
theorem tm (x c : Nat) (h : 256 ∣ c ∨ True) : (x : Int).tmod c = ((x % c : Nat) : Int) := by
  rw [Int.tmod_eq_emod_of_nonneg (by omega)]
  simp
theorem td (x c : Nat) : (x : Int).tdiv c = ((x / c : Nat) : Int) := by
  rw [Int.tdiv_eq_ediv_of_nonneg (by omega)]
  simp
theorem ofNat_mod (x : Nat) : UInt8.ofNat (x % 256) = UInt8.ofNat x := by
  apply UInt8.toNat_inj.1
  rw [UInt8.toNat_ofNat', UInt8.toNat_ofNat']
  omega
end Go.Sy.Pre
