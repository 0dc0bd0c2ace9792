/-
  Layer 02's laws as the reader reads them: CrcJoins, CrcShifts, CrcJoined, CrcEmpty.
-/
import Derived.Test.YtjbladbinocidaaPfCrc
namespace Go.Sy
open Go.Proofs Crc

theorem works_at (n : Nat) (h : 60 ≤ n) : cf (evFn cx0 ext0 n) 9 [] = some (.v (.bool true)) := by
  obtain ⟨m, rfl⟩ : ∃ m, n = m + 60 := ⟨n - 60, by omega⟩
  exact works_ev m

theorem joins_ev (a b : BitVec 32) (k : Int) : cf (evFn cx0 ext0 600000) 7 [v32 a, v32 b, .v (.int .i64 k)] = some (.v (.bool true)) := by
  have hw := works_at 599999 (by omega)
  unfold cf
  rw [E_l02_CrcJoins]
  refine ends_cf (P := Try.prog) ?_
  unfold F_l02_CrcJoins
  by_cases g1 : 300 < k ∧ k ≤ 65536
  · have h1 : decide (300 < k) = true := decide_eq_true g1.1
    have h2 : decide (k ≤ 65536) = true := decide_eq_true g1.2
    have h3 : k.tmod 301 = k % 301 := Int.tmod_eq_emod_of_nonneg (by omega)
    have hq : ¬ (k % 301 < 0 ∨ 65536 < k % 301) := by omega
    have c1 := shift_ev (n := 599999) a (k % 301) (by rw [if_neg hq]; omega)
    have c2 := rshift_ev (n := 599999) a (k % 301) (by rw [if_neg hq]; omega)
    have c3 := join_ev (n := 599999) a b (k % 301) (by rw [if_neg hq]; omega)
    have c4 := rjoin_ev (n := 599999) a b (k % 301) (by rw [if_neg hq]; omega)
    rw [shiftV, if_neg hq] at c1 c2
    rw [joinV, if_neg hq] at c3 c4
    have stq := (And.intro (h1) (And.intro (h2) (And.intro (h3) (And.intro (c1) (And.intro (c2) (And.intro (c3) (And.intro (c4) (hw))))))))
    repeat first
      | ((with_reducible apply ends_bind); case h => first | (simp only [stp, stq]; rfl) | rfl)
      | ((with_reducible apply ends_t); case h => first | rfl | (simp only [stp, stq]; done))
      | ((with_reducible apply ends_f); case h => first | rfl | (simp only [stp, stq]; done))
    exact ends_some ⟨.inl rfl, _, rfl, rfl⟩
  · have rest : ∀ e r x y z w, cf (evFn cx0 ext0 599999) 19 [v32 a, .v (.int .i64 k)] = some (.tup [.v (.int .u32 x), .v (.int .i64 e)]) →
        cf (evFn cx0 ext0 599999) 20 [v32 a, .v (.int .i64 k)] = some (.tup [.v (.int .u32 x), .v (.int .i64 e)]) →
        cf (evFn cx0 ext0 599999) 21 [v32 a, v32 b, .v (.int .i64 k)] = some (.tup [.v (.int .u32 z), .v (.int .i64 e)]) →
        cf (evFn cx0 ext0 599999) 22 [v32 a, v32 b, .v (.int .i64 k)] = some (.tup [.v (.int .u32 z), .v (.int .i64 e)]) → (r, y, w) = ((), (), ()) →
        Ends (F_l02_CrcJoins (evFn cx0 ext0 599999) 599999 0 (v32 a) (v32 b) (.v (.int .i64 k)) []) (RetQ Try.prog [.tmp 6] (.v (.bool true))) := by
      intro e r x y z w c1 c2 c3 c4 _
      unfold F_l02_CrcJoins
      by_cases g2 : 300 < k
      · have h1 : decide (300 < k) = true := decide_eq_true g2
        have h2 : decide (k ≤ 65536) = false := decide_eq_false (by omega)
        have stq := (And.intro (h1) (And.intro (h2) (And.intro (c1) (And.intro (c2) (And.intro (c3) (And.intro (c4) (hw)))))))
        repeat first
          | ((with_reducible apply ends_bind); case h => first | (simp only [stp, stq]; rfl) | rfl)
          | ((with_reducible apply ends_t); case h => first | rfl | (simp only [stp, stq]; done))
          | ((with_reducible apply ends_f); case h => first | rfl | (simp only [stp, stq]; done))
        exact ends_some ⟨.inl rfl, _, rfl, rfl⟩
      · have h1 : decide (300 < k) = false := decide_eq_false g2
        have stq := (And.intro (h1) (And.intro (c1) (And.intro (c2) (And.intro (c3) (And.intro (c4) (hw))))))
        repeat first
          | ((with_reducible apply ends_bind); case h => first | (simp only [stp, stq]; rfl) | rfl)
          | ((with_reducible apply ends_t); case h => first | rfl | (simp only [stp, stq]; done))
          | ((with_reducible apply ends_f); case h => first | rfl | (simp only [stp, stq]; done))
        exact ends_some ⟨.inl rfl, _, rfl, rfl⟩
    have c1 := shift_ev (n := 599999) a k (by split <;> omega)
    have c2 := rshift_ev (n := 599999) a k (by split <;> omega)
    have c3 := join_ev (n := 599999) a b k (by split <;> omega)
    have c4 := rjoin_ev (n := 599999) a b k (by split <;> omega)
    by_cases hq : k < 0 ∨ 65536 < k
    · rw [shiftV, if_pos hq] at c1 c2
      rw [joinV, if_pos hq] at c3 c4
      exact rest _ _ _ _ _ _ c1 c2 c3 c4 rfl
    · rw [shiftV, if_neg hq] at c1 c2
      rw [joinV, if_neg hq] at c3 c4
      exact rest _ _ _ _ _ _ c1 c2 c3 c4 rfl

theorem shifts_ev (a : BitVec 32) (m n : Nat) (hm : m < 256) (hn : n < 256) : cf (evFn cx0 ext0 10000) 6 [v32 a, .v (.int .u8 m), .v (.int .u8 n)] = some (.v (.bool true)) := by
  have hw := works_at 9999 (by omega)
  have k1 : IntKind.i64.wrap (m : Int) = m := by rw [wrap64]; omega
  have k2 : IntKind.i64.wrap (n : Int) = n := by rw [wrap64]; omega
  have k3 : IntKind.i64.wrap ((m : Int) + n) = ((m + n : Nat) : Int) := by rw [wrap64]; omega
  have q1 : ¬ (((m + n : Nat) : Int) < 0 ∨ 65536 < ((m + n : Nat) : Int)) := by omega
  have q2 : ¬ ((m : Int) < 0 ∨ 65536 < (m : Int)) := by omega
  have q3 : ¬ ((n : Int) < 0 ∨ 65536 < (n : Int)) := by omega
  have c1 := shift_ev (n := 9999) a ((m + n : Nat) : Int) (by rw [if_neg q1]; omega)
  have c2 := shift_ev (n := 9999) a (m : Int) (by rw [if_neg q2]; omega)
  have c3 := shift_ev (n := 9999) (stN (8 * m) a) (n : Int) (by rw [if_neg q3]; omega)
  have c4 : cf (evFn cx0 ext0 9999) 19 [v32 a, .v (.int .i64 0)] = _ := shift_ev (n := 9999) a 0 (by simp)
  rw [shiftV, if_neg q1] at c1
  rw [shiftV, if_neg q2] at c2
  rw [shiftV, if_neg q3] at c3
  rw [shiftV, if_neg (by omega)] at c4
  simp only [Int.toNat_natCast] at c1 c2 c3
  rw [Nat.mul_add, stN_add] at c1
  have c4' : cf (evFn cx0 ext0 9999) 19 [v32 a, .v (.int .i64 0)] = some (.tup [v32 a, .v (.int .i64 0)]) := c4
  unfold cf
  rw [E_l02_CrcShifts]
  refine ends_cf (P := Try.prog) ?_
  unfold F_l02_CrcShifts
  have stq := (And.intro (hw) (And.intro (k1) (And.intro (k2) (And.intro (k3) (And.intro (c1) (And.intro (c2) (And.intro (c3) (c4'))))))))
  repeat first
    | ((with_reducible apply ends_bind); case h => first | (simp only [stp, stq]; rfl) | rfl)
    | ((with_reducible apply ends_t); case h => first | rfl | (simp only [stp, stq]; done))
    | ((with_reducible apply ends_f); case h => first | rfl | (simp only [stp, stq]; done))
  exact ends_some ⟨.inl rfl, _, rfl, rfl⟩

theorem joins_law (l : List AV) (hl : l.length = Try.f7.params.toList.length) (h : ∀ (j : Nat) (t : TypeId) (a : AV), Try.f7.params.toList[j]? = some t → l[j]? = some a → ArgFit Try.prog t a) :
    cf (evFn cx0 ext0 600000) 7 l = some (.v (.bool true)) := by
  match l, hl with
  | [a, b, c], _ =>
    obtain ⟨a, rfl⟩ := fit32 (arg1 (h 0 25 _ rfl rfl) (by kernel_rfl) (by kernel_rfl))
    obtain ⟨b, rfl⟩ := fit32 (arg1 (h 1 25 _ rfl rfl) (by kernel_rfl) (by kernel_rfl))
    obtain ⟨c, rfl, _⟩ := fit_int (k := .i64) (arg1 (h 2 3 _ rfl rfl) (by kernel_rfl) (by kernel_rfl))
    exact joins_ev a b c

theorem shifts_law (l : List AV) (hl : l.length = Try.f6.params.toList.length) (h : ∀ (j : Nat) (t : TypeId) (a : AV), Try.f6.params.toList[j]? = some t → l[j]? = some a → ArgFit Try.prog t a) :
    cf (evFn cx0 ext0 10000) 6 l = some (.v (.bool true)) := by
  match l, hl with
  | [a, b, c], _ =>
    obtain ⟨a, rfl⟩ := fit32 (arg1 (h 0 25 _ rfl rfl) (by kernel_rfl) (by kernel_rfl))
    obtain ⟨b, rfl⟩ := fit8 (arg1 (h 1 5 _ rfl rfl) (by kernel_rfl) (by kernel_rfl))
    obtain ⟨c, rfl⟩ := fit8 (arg1 (h 2 5 _ rfl rfl) (by kernel_rfl) (by kernel_rfl))
    exact shifts_ev a _ _ (UInt8.toNat_lt b) (UInt8.toNat_lt c)
end Go.Sy
