/-
  Layer 02's laws as the reader reads them: CrcEmpty, CrcJoined, CrcOne.
-/
import Derived.Test.YtjbladbinocidaaLwCrc
namespace Go.Sy
open Go.Proofs Crc

theorem bs0 (bx : Bx) : buildSliceA Try.prog bx 22 0 [] = some (.bsl bx.length 0 0 1, bx ++ [[]]) := by kernel_rfl
theorem bs1 (bx : Bx) (f : Bool) (a : List UInt8) : buildSliceA Try.prog bx 35 1 [(0, byt f a)] = some (.bsl bx.length 0 1 1, bx ++ [[byt f a]]) := by kernel_rfl
theorem bs1b (bx : Bx) (k n : Nat) : buildSliceA Try.prog bx 35 1 [(0, .bsl k 0 n 1)] = some (.bsl bx.length 0 1 1, bx ++ [[.bsl k 0 n 1]]) := by kernel_rfl
theorem bs2 (bx : Bx) (f g : Bool) (a b : List UInt8) : buildSliceA Try.prog bx 35 2 [(0, byt f a), (1, byt g b)] = some (.bsl bx.length 0 2 1, bx ++ [[byt f a, byt g b]]) := by kernel_rfl
theorem bs3 (bx : Bx) (f : Bool) (a : List UInt8) (k : Nat) : buildSliceA Try.prog bx 35 3 [(0, .v (.slice none 0 0)), (1, byt f a), (2, .bsl k 0 0 1)] = some (.bsl bx.length 0 3 1, bx ++ [[.v (.slice none 0 0), byt f a, .bsl k 0 0 1]]) := by kernel_rfl
theorem len_b (f : Bool) (b : List UInt8) : lenA Try.prog 22 (byt f b) = some (.v (.int .i64 b.length)) := by kernel_rfl
theorem len_bsl (k n : Nat) : lenA Try.prog 22 (.bsl k 0 n 1) = some (.v (.int .i64 n)) := by kernel_rfl
theorem beq_b (p q : Bool) : binA Try.prog .eql 4 (.v (.bool p)) (.v (.bool q)) = some (.v (.bool (p == q))) := by
  cases p <;> cases q <;> kernel_rfl

theorem of1 {n : Nat} (f g : Bool) (a : List UInt8) (ha : a.length ≤ 300) (hn : 400 ≤ n) : cf (evFn cx0 ext0 n) 11 [.sl 1 [byt g a] f] = some (v32 (sum a)) := by
  have h := of_ev (n := n) (B := 300) f [byt g a] [a] (RdP.cons (.inl ⟨g, rfl⟩) RdP.nil) (by simpa using ha) (by simp) (by omega) (by simp) (by simp; omega)
  simpa using h
theorem of2 {n : Nat} (f g g' : Bool) (a b : List UInt8) (ha : a.length ≤ 300) (hb : b.length ≤ 300) (hn : 400 ≤ n) : cf (evFn cx0 ext0 n) 11 [.sl 2 [byt g a, byt g' b] f] = some (v32 (sum (a ++ b))) := by
  have h := of_ev (n := n) (B := 300) f [byt g a, byt g' b] [a, b] (RdP.cons (.inl ⟨g, rfl⟩) (RdP.cons (.inl ⟨g', rfl⟩) RdP.nil)) (by simp [ha, hb]) (by simp) (by omega) (by simp) (by simp; omega)
  simpa using h
theorem of3 {n : Nat} (f g g' : Bool) (a : List UInt8) (ha : a.length ≤ 300) (hn : 400 ≤ n) : cf (evFn cx0 ext0 n) 11 [.sl 3 [.v (.slice none 0 0), byt g a, byt g' []] f] = some (v32 (sum a)) := by
  have h := of_ev (n := n) (B := 300) f [.v (.slice none 0 0), byt g a, byt g' []] [[], a, []] (RdP.cons (.inr ⟨rfl, rfl⟩) (RdP.cons (.inl ⟨g, rfl⟩) (RdP.cons (.inl ⟨g', rfl⟩) RdP.nil))) (by simp [ha]) (by simp) (by omega) (by simp) (by simp; omega)
  simpa using h

theorem joined_ev (a b : List UInt8) : cf (evFn cx0 ext0 10000) 8 [byt true a, byt true b] = some (.v (.bool true)) := by
  have hw := works_at 9999 (by omega)
  have s1 : ∀ bx, sliceA Try.prog bx 22 (byt true a) none (some (.v (.int .i64 (min (a.length : Int) 300)))) none = some (byt true (a.take 300)) := fun bx => slc_min t8 bx a true .i64 300
  have s2 : ∀ bx, sliceA Try.prog bx 22 (byt true b) none (some (.v (.int .i64 (min (b.length : Int) 300)))) none = some (byt true (b.take 300)) := fun bx => slc_min t8 bx b true .i64 300
  have la : (a.take 300).length ≤ 300 := by simp; omega
  have lb : (b.take 300).length ≤ 300 := by simp; omega
  have n1 := len_b true a
  have n2 := len_b true b
  have n3 := len_b true (b.take 300)
  generalize a.take 300 = a' at *
  generalize b.take 300 = b' at *
  have o1 := of1 (n := 9999) true true a' la (by omega)
  have o2 := of1 (n := 9999) true true b' lb (by omega)
  have o3 := of2 (n := 9999) true true true a' b' la lb (by omega)
  have z1 : frz [[byt true a']] true 6 (.bsl 0 0 1 1) = .sl 1 [byt true a'] true := rfl
  have z2 : frz [[byt true a'], [byt true b']] true 6 (.bsl 1 0 1 1) = .sl 1 [byt true b'] true := rfl
  have z3 : frz [[byt true a'], [byt true b'], [byt true a', byt true b']] true 6 (.bsl 2 0 2 1) = .sl 2 [byt true a', byt true b'] true := rfl
  have q : ¬ ((b'.length : Int) < 0 ∨ 65536 < (b'.length : Int)) := by omega
  have j1 := join_ev (n := 9999) (sum a') (sum b') b'.length (by rw [if_neg q]; simp; omega)
  rw [joinV, if_neg q] at j1
  rw [Int.toNat_natCast, ← sum_join] at j1
  unfold cf
  rw [E_l02_CrcJoined]
  refine ends_cf (P := Try.prog) ?_
  unfold F_l02_CrcJoined
  have stq := (And.intro (hw) (And.intro (n1) (And.intro (n2) (And.intro (n3) (And.intro (s1) (And.intro (s2) (And.intro (bs1) (And.intro (bs2) (And.intro (z1) (And.intro (z2) (And.intro (z3) (And.intro (o1) (And.intro (o2) (And.intro (o3) (j1)))))))))))))))
  repeat first
    | ((with_reducible apply ends_bind); case h => first | (simp only [stp, stq]; rfl) | rfl)
    | ((with_reducible apply ends_t); case h => first | rfl | (simp only [stp, stq]; done))
    | ((with_reducible apply ends_f); case h => first | rfl | (simp only [stp, stq]; done))
  exact ends_some ⟨.inl rfl, _, rfl, rfl⟩

theorem empty_ev (b : List UInt8) : cf (evFn cx0 ext0 10000) 4 [byt true b] = some (.v (.bool true)) := by
  have hw := works_at 9999 (by omega)
  have s1 : ∀ bx, sliceA Try.prog bx 22 (byt true b) none (some (.v (.int .i64 (min (b.length : Int) 300)))) none = some (byt true (b.take 300)) := fun bx => slc_min t8 bx b true .i64 300
  have lb : (b.take 300).length ≤ 300 := by simp; omega
  have n1 := len_b true b
  generalize b.take 300 = b' at *
  have b1 : cf (evFn cx0 ext0 9999) 10 [byt true b'] = _ := bytes_ev 9998 true b' (by omega)
  have e1 : cf (evFn cx0 ext0 9999) 11 [.v (.slice none 0 0)] = some (.v (.int .u32 0)) := by kernel_rfl
  have e2 : cf (evFn cx0 ext0 9999) 13 [] = some (sumV 4294967295#32 0) := begin_ev 9998
  have e3 : cf (evFn cx0 ext0 9999) 14 [sumV 4294967295#32 0] = some (.v (.int .u32 0)) := by kernel_rfl
  have e4 : cf (evFn cx0 ext0 9999) 15 [sumV 4294967295#32 0, .v (.slice none 0 0)] = some (sumV 4294967295#32 0) := addn_ev 9987 _ _ (by omega)
  have e5 : binA Try.prog .eql 30 (sumV 4294967295#32 0) (sumV 4294967295#32 0) = some (.v (.bool true)) := by kernel_rfl
  have e6 : cf (evFn cx0 ext0 9999) 15 [sumV 4294967295#32 0, byt false b'] = _ := add_ev false b' (by omega) (by omega) 4294967295#32 0 (by omega)
  have e7 : cf (evFn cx0 ext0 9999) 14 [sumV (reg 4294967295#32 b') (0 + b'.length)] = some (v32 (sum b')) := value_ev 9998 _ _
  have o1 := of1 (n := 9999) true false b' lb (by omega)
  have o3 := of3 (n := 9999) true false true b' lb (by omega)
  have z0 : ∀ bx r k, frz bx true 6 (sumV r k) = sumV r k := fun _ _ _ => rfl
  have z1 : frz [[], [.v (.slice none 0 0), byt false b', .bsl 0 0 0 1]] true 6 (.bsl 1 0 3 1) = .sl 3 [.v (.slice none 0 0), byt false b', byt true []] true := rfl
  have z2 : frz [[], [.v (.slice none 0 0), byt false b', .bsl 0 0 0 1], [byt false b']] true 6 (.bsl 2 0 1 1) = .sl 1 [byt false b'] true := rfl
  have z3 : frz [[], [.v (.slice none 0 0), byt false b', .bsl 0 0 0 1], [byt false b'], [byt false b']] true 6 (.bsl 3 0 1 1) = .sl 1 [byt false b'] true := rfl
  unfold cf
  rw [E_l02_CrcEmpty]
  refine ends_cf (P := Try.prog) ?_
  unfold F_l02_CrcEmpty
  have stq := (And.intro (hw) (And.intro (n1) (And.intro (s1) (And.intro (bs0) (And.intro (bs1) (And.intro (bs3) (And.intro (b1) (And.intro (z0) (And.intro (z1) (And.intro (z2) (And.intro (z3) (And.intro (o1) (And.intro (o3) (And.intro (e1) (And.intro (e2) (And.intro (e3) (And.intro (e4) (And.intro (e5) (And.intro (e6) (e7))))))))))))))))))))
  repeat first
    | ((with_reducible apply ends_bind); case h => first | (simp only [stp, stq]; rfl) | rfl)
    | ((with_reducible apply ends_t); case h => first | rfl | (simp only [stp, stq]; done))
    | ((with_reducible apply ends_f); case h => first | rfl | (simp only [stp, stq]; done))
  exact ends_some ⟨.inl rfl, _, rfl, rfl⟩
end Go.Sy
