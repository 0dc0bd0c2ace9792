/-
  What the sum's functions compute, as the reader reads them; for numbers and bytes as said.
-/
import Derived.Test.YtmkdhgigghgieaaPfBase
import Derived.Test.YtmkdhgigghgieaaPlCrc
namespace Go.Sy
open Go.Proofs Crc

theorem one32 : (1 : Int) = i32 1#32 := by decide
theorem low32 : (2197175160 : Int) = i32 2197175160#32 := by decide
theorem step_ints (r : BitVec 32) : bitI .xor .u32 ((i32 r).fdiv (2 ^ (min (1 : Int).toNat IntKind.u32.bits))) (bitI .and .u32 2197175160 (IntKind.u32.wrap (0 - bitI .and .u32 (i32 r) 1))) = i32 (st1 r) := by
  rw [show (2 : Int) ^ (min (1 : Int).toNat IntKind.u32.bits) = 2 from rfl, shr1, one32, and32, neg32, low32, and32, xor32, step_code]

theorem stepped_ev {n N : Nat} (hn : N + 2 ≤ n) (hN : N < 2 ^ 62) (r0 : BitVec 32) : cf (evFn cx0 ext0 n) 60 [v32 r0, .v (.int .i64 N)] = some (v32 (stN N r0)) := by
  obtain ⟨m, rfl⟩ : ∃ m, n = m + 1 := ⟨n - 1, by omega⟩
  unfold cf
  rw [E_crc_stepped]
  refine ends_cf (P := Try.prog) ?_
  unfold F_crc_stepped
  refine ends_loop (fun k s => ∃ (j x : Int), s = ⟨[(7, .v (.int .i64 j)), (6, .v (.int .i64 N)), (4, .v (.int .u32 0)), (0, .v (.int .u32 x)), (1, .v (.int .i64 N))], []⟩ ∧ ∃ (i : Nat) (r : BitVec 32), j = i ∧ x = i32 r ∧ i + k = N ∧ stN k r = stN N r0) N (by omega) ⟨_, _, rfl, 0, r0, rfl, rfl, by omega, rfl⟩ ?_
  rintro k s ⟨j, x, rfl, i, r, rfl, rfl, hk, hr⟩
  refine L_crc_stepped_0_lit ?_
  unfold B_crc_stepped_0
  rcases k with  _ | k
  · have h1 : decide ((i : Int) < (N : Int)) = false := decide_eq_false (by omega)
    have stq := (h1)
    repeat first
      | ((with_reducible apply ends_bind); case h => first | (simp only [stp, stq]; first | done | rfl) | rfl)
      | ((with_reducible apply ends_t); case h => first | rfl | (simp only [stp, stq]; done))
      | ((with_reducible apply ends_f); case h => first | rfl | (simp only [stp, stq]; done))
    exact ends_some (.inr (.inl ⟨0, rfl, X_crc_stepped_0_0_lit (ends_some ⟨.inl rfl, _, rfl, (congrArg v32 hr :  v32 r = _)⟩)⟩))
  · have h1 : decide ((i : Int) < (N : Int)) = true := decide_eq_true (by omega)
    have stq := (h1)
    repeat first
      | ((with_reducible apply ends_bind); case h => first | (simp only [stp, stq]; first | done | rfl) | rfl)
      | ((with_reducible apply ends_t); case h => first | rfl | (simp only [stp, stq]; done))
      | ((with_reducible apply ends_f); case h => first | rfl | (simp only [stp, stq]; done))
    exact ends_some (.inl ⟨rfl, k, by omega, _, _, rfl, i + 1, st1 r, by rw [wrap64]; omega, step_ints r, by omega, hr⟩)

theorem dstep (r : BitVec 32) : (i32 r).tdiv 2 = i32 (r >>> 1) := by
  rw [← shr1, Int.fdiv_eq_ediv_of_nonneg _ (by omega), Int.tdiv_eq_ediv_of_nonneg (i32_lt r).1]
theorem step_ev {n N : Nat} (hn : N + 2 ≤ n) (hN : N < 2 ^ 62) (r0 : BitVec 32) : cf (evFn cx0 ext0 n) 53 [v32 r0, .v (.int .i64 N)] = some (v32 (stN N r0)) := by
  obtain ⟨m, rfl⟩ : ∃ m, n = m + 1 := ⟨n - 1, by omega⟩
  unfold cf
  rw [E_r02_step]
  refine ends_cf (P := Try.prog) ?_
  unfold F_r02_step
  refine ends_loop (fun k s => ∃ (j x : Int), s = ⟨[(5, .v (.int .i64 j)), (4, .v (.int .u32 0)), (0, .v (.int .u32 x)), (1, .v (.int .i64 N))], []⟩ ∧ ∃ (i : Nat) (r : BitVec 32), j = i ∧ x = i32 r ∧ i + k = N ∧ stN k r = stN N r0) N (by omega) ⟨_, _, rfl, 0, r0, rfl, rfl, by omega, rfl⟩ ?_
  rintro k s ⟨j, x, rfl, i, r, rfl, rfl, hk, hr⟩
  refine L_r02_step_0_lit ?_
  unfold B_r02_step_0
  rcases k with  _ | k
  · have h1 : decide ((i : Int) < (N : Int)) = false := decide_eq_false (by omega)
    have stq := (h1)
    repeat first
      | ((with_reducible apply ends_bind); case h => first | (simp only [stp, stq]; first | done | rfl) | rfl)
      | ((with_reducible apply ends_t); case h => first | rfl | (simp only [stp, stq]; done))
      | ((with_reducible apply ends_f); case h => first | rfl | (simp only [stp, stq]; done))
    exact ends_some (.inr (.inl ⟨0, rfl, X_r02_step_0_0_lit (ends_some ⟨.inl rfl, _, rfl, (congrArg v32 hr :  v32 r = _)⟩)⟩))
  · have h1 : decide ((i : Int) < (N : Int)) = true := decide_eq_true (by omega)
    have h2 := lsb r
    have h3 : (i32 r).tmod 2 = i32 r % 2 := Int.tmod_eq_emod_of_nonneg (i32_lt r).1
    have h4 : IntKind.u32.wrap ((i32 r).tdiv 2) = i32 (r >>> 1) := by
      rw [dstep]
      exact wrap_i32 _
    cases hb : r.getLsbD 0
    · have hs : st1 r = r >>> 1 := by unfold st1; rw [hb]; simp
      have h5 : ((i32 r).tmod 2 == 1) = false := by rw [h3, h2, hb]; rfl
      have stq := (And.intro (h1) (h5))
      repeat first
        | ((with_reducible apply ends_bind); case h => first | (simp only [stp, stq]; first | done | rfl) | rfl)
        | ((with_reducible apply ends_t); case h => first | rfl | (simp only [stp, stq]; done))
        | ((with_reducible apply ends_f); case h => first | rfl | (simp only [stp, stq]; done))
      exact ends_some (.inl ⟨rfl, k, by omega, _, _, rfl, i + 1, st1 r, by rw [wrap64]; omega, by rw [h4, hs], by omega, hr⟩)
    · have hs : st1 r = r >>> 1 ^^^ 2197175160#32 := by unfold st1; rw [hb]; simp
      have h5 : ((i32 r).tmod 2 == 1) = true := by rw [h3, h2, hb]; rfl
      have stq := (And.intro (h1) (h5))
      repeat first
        | ((with_reducible apply ends_bind); case h => first | (simp only [stp, stq]; first | done | rfl) | rfl)
        | ((with_reducible apply ends_t); case h => first | rfl | (simp only [stp, stq]; done))
        | ((with_reducible apply ends_f); case h => first | rfl | (simp only [stp, stq]; done))
      exact ends_some (.inl ⟨rfl, k, by omega, _, _, rfl, i + 1, st1 r, by rw [wrap64]; omega, by rw [h4, low32, xor32, hs], by omega, hr⟩)

/-- a sum that grows -/
abbrev sumV (r : BitVec 32) (n : Int) : AV := .agg [v32 r, .v (.int .i64 n)]
theorem begin_ev (m : Nat) : cf (evFn cx0 ext0 (m + 1)) 56 [] = some (sumV 4294967295#32 0) := by kernel_rfl
theorem value_ev (m : Nat) (r : BitVec 32) (n : Int) : cf (evFn cx0 ext0 (m + 1)) 58 [sumV r n] = some (v32 (~~~ r)) := by
  have : cf (evFn cx0 ext0 (m + 1)) 58 [sumV r n] = some (.v (.int .u32 (bitI .xor .u32 IntKind.u32.max (i32 r)))) := by kernel_rfl
  rw [this, not32]

theorem wide8 (x : UInt8) : IntKind.u32.wrap (x.toNat : Int) = i32 (x.toBitVec.setWidth 32) := by
  rw [wrap32]
  unfold i32
  rw [BitVec.toNat_setWidth]
  have := x.toBitVec.isLt
  have h : x.toNat = x.toBitVec.toNat := rfl
  omega

theorem add_ev {n : Nat} (f : Bool) (b : List UInt8) (hn : b.length + 12 ≤ n) (hb : b.length < 2 ^ 32) (r0 : BitVec 32) (c : Int) (hc : 0 ≤ c ∧ c < 2 ^ 32) : cf (evFn cx0 ext0 n) 57 [sumV r0 c, byt f b] = some (sumV (reg r0 b) (c + b.length)) := by
  obtain ⟨m, rfl⟩ : ∃ m, n = m + 1 := ⟨n - 1, by omega⟩
  unfold cf
  rw [E_crc_Sum_Add]
  refine ends_cf (P := Try.prog) ?_
  unfold F_crc_Sum_Add
  refine ends_bind _ rfl ?_
  refine ends_bind _ rfl ?_
  refine ends_bind _ rfl ?_
  refine ends_loop (fun k s => ∃ (j x : Int), s = ⟨[(9, .v (.int .i64 j)), (8, .v (.int .i64 b.length)), (7, byt f b), (4, .bp 1 0), (2, .bp 0 0), (0, sumV r0 c), (1, byt f b)], [[.v (.int .u32 x), .v (.int .i64 c)], [.v (.int .u32 0), .v (.int .i64 0)]]⟩ ∧
    ∃ (i : Nat) (r : BitVec 32), j = i ∧ x = i32 r ∧ i + k = b.length ∧ reg r (b.drop i) = reg r0 b) b.length (by omega) ⟨_, _, rfl, 0, r0, rfl, rfl, by omega, by simp⟩ ?_
  rintro k s ⟨j, x, rfl, i, r, rfl, rfl, hk, hr⟩
  refine L_crc_Sum_Add_0_lit ?_
  unfold B_crc_Sum_Add_0
  rcases k with _ | k
  · have h1 : decide ((i : Int) < (b.length : Int)) = false := decide_eq_false (by omega)
    have hr' : r = reg r0 b := by rw [← hr, List.drop_eq_nil_of_le (by omega)]; rfl
    have h2 : IntKind.i64.wrap (c + b.length) = c + b.length := by rw [wrap64]; omega
    have stq := (h1)
    repeat first
      | ((with_reducible apply ends_bind); case h => first | (simp only [stp, stq]; first | done | rfl) | rfl)
      | ((with_reducible apply ends_t); case h => first | rfl | (simp only [stp, stq]; done))
      | ((with_reducible apply ends_f); case h => first | rfl | (simp only [stp, stq]; done))
    refine ends_some (.inr (.inl ⟨0, rfl, X_crc_Sum_Add_0_0_lit ?_⟩))
    unfold X_crc_Sum_Add_0_0
    have stq := (h2)
    repeat first
      | ((with_reducible apply ends_bind); case h => first | (simp only [stp, stq]; first | done | rfl) | rfl)
      | ((with_reducible apply ends_t); case h => first | rfl | (simp only [stp, stq]; done))
      | ((with_reducible apply ends_f); case h => first | rfl | (simp only [stp, stq]; done))
    exact ends_some ⟨.inl rfl, _, rfl, by rw [← hr']; rfl⟩
  · have hi : i < b.length := by omega
    have h1 : decide ((i : Int) < (b.length : Int)) = true := decide_eq_true (by omega)
    have h2 := idx_u8 t8 b f .i64 i hi
    have h3 : cf (evFn cx0 ext0 m) 60 [v32 (r ^^^ b[i].toBitVec.setWidth 32), .v (.int .i64 8)] = _ := stepped_ev (n := m) (N := 8) (by omega) (by omega) (r ^^^ b[i].toBitVec.setWidth 32)
    have h4 : IntKind.i64.wrap ((i : Int) + 1) = ((i + 1 : Nat) : Int) := by rw [wrap64]; omega
    have h5 : bitI .xor .u32 (i32 r) (IntKind.u32.wrap (b[i].toNat : Int)) = i32 (r ^^^ b[i].toBitVec.setWidth 32) := by rw [wide8, xor32]
    have stq := (And.intro (h1) (And.intro (h2) (And.intro (h3) (And.intro (h4) (h5)))))
    repeat first
      | ((with_reducible apply ends_bind); case h => first | (simp only [stp, stq]; first | done | rfl) | rfl)
      | ((with_reducible apply ends_t); case h => first | rfl | (simp only [stp, stq]; done))
      | ((with_reducible apply ends_f); case h => first | rfl | (simp only [stp, stq]; done))
    refine ends_some (.inl ⟨rfl, k, by omega, _, _, rfl, i + 1, stN 8 (r ^^^ b[i].toBitVec.setWidth 32), rfl, rfl, by omega, ?_⟩)
    rw [← hr, List.drop_eq_getElem_cons hi, reg_cons]

/-! ## sums of parts -/

def regs (r : BitVec 32) (l : List (List UInt8)) : BitVec 32 := reg r l.flatten
theorem regs_cons (r : BitVec 32) (b : List UInt8) (l : List (List UInt8)) : regs r (b :: l) = regs (reg r b) l := by unfold regs; rw [List.flatten_cons, reg_append]

/-- bytes as a call reads them: a slice, or nil -/
def RdB (a : AV) (b : List UInt8) : Prop := (∃ f, a = byt f b) ∨ (a = .v (.slice none 0 0) ∧ b = [])
theorem RdB.frz {a : AV} {b : List UInt8} (h : RdB a b) (bx : Bx) (d : Nat) : frz bx true (d + 1) a = a := by
  rcases h with ⟨f, rfl⟩ | ⟨rfl, _⟩
  · exact frz_byt bx d f b
  · rfl
theorem addn_ev (m : Nat) (r0 : BitVec 32) (c : Int) (hc : 0 ≤ c ∧ c < 2 ^ 32) : cf (evFn cx0 ext0 (m + 12)) 57 [sumV r0 c, .v (.slice none 0 0)] = some (sumV r0 c) := by
  have h : cf (evFn cx0 ext0 (m + 12)) 57 [sumV r0 c, .v (.slice none 0 0)] = some (.agg [v32 r0, .v (.int .i64 (IntKind.i64.wrap (c + 0)))]) := by kernel_rfl
  rw [h, show IntKind.i64.wrap (c + 0) = c by rw [wrap64]; omega]
theorem add_rd {n : Nat} {a : AV} {b : List UInt8} (h : RdB a b) (hn : b.length + 12 ≤ n) (hb : b.length < 2 ^ 32) (r0 : BitVec 32) (c : Int) (hc : 0 ≤ c ∧ c < 2 ^ 32) : cf (evFn cx0 ext0 n) 57 [sumV r0 c, a] = some (sumV (reg r0 b) (c + b.length)) := by
  rcases h with ⟨f, rfl⟩ | ⟨rfl, rfl⟩
  · exact add_ev f b hn hb r0 c hc
  · obtain ⟨m, rfl⟩ : ∃ m, n = m + 12 := ⟨n - 12, by simp at hn; omega⟩
    rw [addn_ev m r0 c hc]
    simp [reg_nil]
/-- parts as a call reads them -/
def RdP (ps : List AV) (l : List (List UInt8)) : Prop := ps.length = l.length ∧ ∀ (i : Nat) (h : i < l.length) (h' : i < ps.length), RdB ps[i] l[i]
theorem RdP.nil : RdP [] [] := ⟨rfl, fun i h => by simp at h⟩
theorem RdP.cons {a : AV} {b : List UInt8} {ps : List AV} {l : List (List UInt8)} (h : RdB a b) (h' : RdP ps l) : RdP (a :: ps) (b :: l) := by
  refine ⟨by simp [h'.1], fun i h1 h2 => ?_⟩
  rcases i with _ | i
  · exact h
  · simpa using h'.2 i (by simpa using h1) (by simpa using h2)
theorem RdP.map (g : Bool) (l : List (List UInt8)) : RdP (l.map (byt g)) l := ⟨by simp, fun i h h' => .inl ⟨g, by simp⟩⟩
theorem t81 : sl1 Try.prog 77 = true := by kernel_rfl

theorem of_ev {n B : Nat} (f : Bool) (ps : List AV) (l : List (List UInt8)) (hp : RdP ps l) (hl : ∀ b ∈ l, b.length ≤ B) (hB : l.length * B < 2 ^ 31) (hB2 : B < 2 ^ 31) (hL : l.length < 2 ^ 31) (hn : l.length + B + 14 ≤ n) :
    cf (evFn cx0 ext0 n) 52 [.sl l.length ps f] = some (v32 (sum l.flatten)) := by
  obtain ⟨m, rfl⟩ : ∃ m, n = m + 1 := ⟨n - 1, by omega⟩
  obtain ⟨m', rfl⟩ : ∃ m', m = m' + 1 := ⟨m - 1, by omega⟩
  unfold cf
  rw [E_crc_Of]
  refine ends_cf (P := Try.prog) ?_
  unfold F_crc_Of
  have hb := begin_ev m'
  have hps := hp.1
  have stq := (hb)
  repeat first
    | ((with_reducible apply ends_bind); case h => first | (simp only [stp, stq]; first | done | rfl) | rfl)
    | ((with_reducible apply ends_t); case h => first | rfl | (simp only [stp, stq]; done))
    | ((with_reducible apply ends_f); case h => first | rfl | (simp only [stp, stq]; done))
  refine ends_loop (fun k s => ∃ (j x c : Int), s = ⟨[(9, .v (.int .i64 j)), (8, .v (.int .i64 l.length)), (7, .sl l.length ps f), (3, .bp 0 0), (2, .v (.int .u32 0)), (0, .sl l.length ps f)], [[.v (.int .u32 x), .v (.int .i64 c)]]⟩ ∧
    ∃ (i : Nat) (r : BitVec 32), j = i ∧ x = i32 r ∧ 0 ≤ c ∧ c ≤ i * B ∧ i + k = l.length ∧ regs r (l.drop i) = regs 4294967295#32 l) l.length (by omega) ⟨_, _, _, rfl, 0, 4294967295#32, rfl, rfl, by omega, by omega, by omega, by simp⟩ ?_
  rintro k s ⟨j, x, c, rfl, i, r, rfl, rfl, hc0, hc, hk, hr⟩
  refine L_crc_Of_0_lit ?_
  unfold B_crc_Of_0
  rcases k with _ | k
  · have h1 : decide ((i : Int) < (l.length : Int)) = false := decide_eq_false (by omega)
    have hr' : ~~~ r = sum l.flatten := by
      have : r = reg 4294967295#32 l.flatten := by
        rw [List.drop_eq_nil_of_le (by omega)] at hr
        exact hr
      rw [this]
      rfl
    have h2 : cf (evFn cx0 ext0 (m' + 1)) 58 [.agg [v32 r, .v (.int .i64 c)]] = _ := value_ev m' r c
    rw [hr'] at h2
    have h3 : loadA Try.prog 79 [[.v (.int .u32 (i32 r)), .v (.int .i64 c)]] (.bp 0 0) = some (.agg [v32 r, .v (.int .i64 c)]) := by kernel_rfl
    have h4 : ∀ bx, frz bx true 6 (.agg [v32 r, .v (.int .i64 c)]) = .agg [v32 r, .v (.int .i64 c)] := fun _ => rfl
    have stq := (h1)
    repeat first
      | ((with_reducible apply ends_bind); case h => first | (simp only [stp, stq]; first | done | rfl) | rfl)
      | ((with_reducible apply ends_t); case h => first | rfl | (simp only [stp, stq]; done))
      | ((with_reducible apply ends_f); case h => first | rfl | (simp only [stp, stq]; done))
    refine ends_some (.inr (.inl ⟨0, rfl, X_crc_Of_0_0_lit ?_⟩))
    unfold X_crc_Of_0_0
    have stq := (And.intro (h2) (And.intro (h3) (h4)))
    repeat first
      | ((with_reducible apply ends_bind); case h => first | (simp only [stp, stq]; first | done | rfl) | rfl)
      | ((with_reducible apply ends_t); case h => first | rfl | (simp only [stp, stq]; done))
      | ((with_reducible apply ends_f); case h => first | rfl | (simp only [stp, stq]; done))
    exact ends_some ⟨.inl rfl, _, rfl, rfl⟩
  · have hi : i < l.length := by omega
    have hmem : l[i] ∈ l := List.getElem_mem hi
    have hlen := hl _ hmem
    have hcB : i * B + B ≤ l.length * B := by rw [← Nat.succ_mul]; exact Nat.mul_le_mul_right B hi
    have hrd := hp.2 i hi (by omega)
    have h1 : decide ((i : Int) < (l.length : Int)) = true := decide_eq_true (by omega)
    have h2 := idx_sl1 t81 ps l.length hps.symm f .i64 i (by omega)
    have h3 : cf (evFn cx0 ext0 (m' + 1)) 57 [.agg [v32 r, .v (.int .i64 c)], ps[i]] = _ := add_rd hrd (by omega) (by omega) r c ⟨hc0, by omega⟩
    have h4 : ∀ bx, Sy.frz bx true 6 (.agg [v32 r, .v (.int .i64 c)]) = .agg [v32 r, .v (.int .i64 c)] := fun _ => rfl
    have h5 : loadA Try.prog 79 [[.v (.int .u32 (i32 r)), .v (.int .i64 c)]] (.bp 0 0) = some (.agg [v32 r, .v (.int .i64 c)]) := by kernel_rfl
    have h6 : IntKind.i64.wrap ((i : Int) + 1) = ((i + 1 : Nat) : Int) := by rw [wrap64]; omega
    have h7 : ∀ bx, Sy.frz bx true 6 ps[i] = ps[i] := fun bx => hrd.frz bx 5
    have stq := (And.intro (h1) (And.intro (h2) (And.intro (h3) (And.intro (h4) (And.intro (h5) (And.intro (h6) (h7)))))))
    repeat first
      | ((with_reducible apply ends_bind); case h => first | (simp only [stp, stq]; first | done | rfl) | rfl)
      | ((with_reducible apply ends_t); case h => first | rfl | (simp only [stp, stq]; done))
      | ((with_reducible apply ends_f); case h => first | rfl | (simp only [stp, stq]; done))
    refine ends_some (.inl ⟨rfl, k, by omega, _, _, _, rfl, i + 1, reg r l[i], rfl, rfl, by omega, ?_, by omega, ?_⟩)
    · have : ((i + 1 : Nat) : Int) * B = i * B + B := by rw [Int.natCast_add, Int.add_mul]; simp
      omega
    · rw [← hr, List.drop_eq_getElem_cons hi, regs_cons]

theorem radd_ev {n : Nat} (f : Bool) (b : List UInt8) (hn : b.length + 12 ≤ n) (hb : b.length < 2 ^ 32) (r0 : BitVec 32) : cf (evFn cx0 ext0 n) 44 [v32 r0, byt f b] = some (v32 (reg r0 b)) := by
  obtain ⟨m, rfl⟩ : ∃ m, n = m + 1 := ⟨n - 1, by omega⟩
  unfold cf
  rw [E_r02_Add]
  refine ends_cf (P := Try.prog) ?_
  unfold F_r02_Add
  refine ends_loop (fun k s => ∃ (j x : Int), s = ⟨[(5, .v (.int .i64 j)), (4, .v (.int .u32 0)), (0, .v (.int .u32 x)), (1, byt f b)], []⟩ ∧
    ∃ (i : Nat) (r : BitVec 32), j = i ∧ x = i32 r ∧ i + k = b.length ∧ reg r (b.drop i) = reg r0 b) b.length (by omega) ⟨_, _, rfl, 0, r0, rfl, rfl, by omega, by simp⟩ ?_
  rintro k s ⟨j, x, rfl, i, r, rfl, rfl, hk, hr⟩
  refine L_r02_Add_0_lit ?_
  unfold B_r02_Add_0
  rcases k with _ | k
  · have h1 : decide ((i : Int) < (b.length : Int)) = false := decide_eq_false (by omega)
    have hr' : r = reg r0 b := by rw [← hr, List.drop_eq_nil_of_le (by omega)]; rfl
    have stq := (h1)
    repeat first
      | ((with_reducible apply ends_bind); case h => first | (simp only [stp, stq]; first | done | rfl) | rfl)
      | ((with_reducible apply ends_t); case h => first | rfl | (simp only [stp, stq]; done))
      | ((with_reducible apply ends_f); case h => first | rfl | (simp only [stp, stq]; done))
    exact ends_some (.inr (.inl ⟨0, rfl, X_r02_Add_0_0_lit (ends_some ⟨.inl rfl, _, rfl, (congrArg v32 hr' : v32 r = _)⟩)⟩))
  · have hi : i < b.length := by omega
    have h1 : decide ((i : Int) < (b.length : Int)) = true := decide_eq_true (by omega)
    have h2 := idx_u8 t8 b f .i64 i hi
    have h3 : cf (evFn cx0 ext0 m) 53 [v32 (r ^^^ b[i].toBitVec.setWidth 32), .v (.int .i64 8)] = _ := step_ev (n := m) (N := 8) (by omega) (by omega) (r ^^^ b[i].toBitVec.setWidth 32)
    have h4 : IntKind.i64.wrap ((i : Int) + 1) = ((i + 1 : Nat) : Int) := by rw [wrap64]; omega
    have h5 : bitI .xor .u32 (i32 r) (IntKind.u32.wrap (b[i].toNat : Int)) = i32 (r ^^^ b[i].toBitVec.setWidth 32) := by rw [wide8, xor32]
    have stq := (And.intro (h1) (And.intro (h2) (And.intro (h3) (And.intro (h4) (h5)))))
    repeat first
      | ((with_reducible apply ends_bind); case h => first | (simp only [stp, stq]; first | done | rfl) | rfl)
      | ((with_reducible apply ends_t); case h => first | rfl | (simp only [stp, stq]; done))
      | ((with_reducible apply ends_f); case h => first | rfl | (simp only [stp, stq]; done))
    refine ends_some (.inl ⟨rfl, k, by omega, _, _, rfl, i + 1, stN 8 (r ^^^ b[i].toBitVec.setWidth 32), rfl, rfl, by omega, ?_⟩)
    rw [← hr, List.drop_eq_getElem_cons hi, reg_cons]
theorem rof_ev {n : Nat} (f : Bool) (b : List UInt8) (hn : b.length + 14 ≤ n) (hb : b.length < 2 ^ 32) : cf (evFn cx0 ext0 n) 32 [byt f b] = some (v32 (sum b)) := by
  obtain ⟨m, rfl⟩ : ∃ m, n = m + 1 := ⟨n - 1, by omega⟩
  have h1 : cf (evFn cx0 ext0 m) 44 [.v (.int .u32 4294967295), byt f b] = _ := radd_ev f b (by omega) hb 4294967295#32
  have h2 : ∀ bx, frz bx true 6 (byt f b) = byt f b := fun _ => by cases f <;> rfl
  have h3 : IntKind.u32.wrap (4294967295 - i32 (reg 4294967295#32 b)) = i32 (sum b) := by
    rw [show (4294967295 : Int) = i32 4294967295#32 by decide, sub32, sub_ones]
    rfl
  unfold cf
  rw [E_r02_Of]
  refine ends_cf (P := Try.prog) ?_
  unfold F_r02_Of
  have stq := (And.intro (h1) (And.intro (h2) (h3)))
  repeat first
    | ((with_reducible apply ends_bind); case h => first | (simp only [stp, stq]; first | done | rfl) | rfl)
    | ((with_reducible apply ends_t); case h => first | rfl | (simp only [stp, stq]; done))
    | ((with_reducible apply ends_f); case h => first | rfl | (simp only [stp, stq]; done))
  exact ends_some ⟨.inl rfl, _, rfl, rfl⟩

/-- what 'Shift' answers -/
def shiftV (r : BitVec 32) (k : Int) : AV := if k < 0 ∨ 65536 < k then .tup [.v (.int .u32 0), .v (.int .i64 2)] else .tup [v32 (stN (8 * k.toNat) r), .v (.int .i64 0)]
/-- what 'Join' answers -/
def joinV (a b : BitVec 32) (k : Int) : AV := if k < 0 ∨ 65536 < k then .tup [.v (.int .u32 0), .v (.int .i64 2)] else .tup [v32 (stN (8 * k.toNat) a ^^^ b), .v (.int .i64 0)]
end Go.Sy
