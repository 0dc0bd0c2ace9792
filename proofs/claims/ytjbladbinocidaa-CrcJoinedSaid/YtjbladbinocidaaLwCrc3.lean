/-
  Layer 02's laws as the reader reads them: CrcOne.
-/
import Derived.Test.YtjbladbinocidaaLwCrc2
namespace Go.Sy
open Go.Proofs Crc

theorem md_one (E : FnA) (bx : Bx) (args : List AV) :
    callA E md_l02_CrcOne bx 9 args = (cf E 9 (args.map (frz bx true 6))).map (fun r => (r, bx)) ∧
    callA E md_l02_CrcOne bx 11 args = (cf E 11 (args.map (frz bx true 6))).map (fun r => (r, bx)) ∧
    callA E md_l02_CrcOne bx 12 args = (cf E 12 (args.map (frz bx true 6))).map (fun r => (r, bx)) :=
  ⟨callA_frozen rfl bx args, callA_frozen rfl bx args, callA_frozen rfl bx args⟩

theorem one_plain (b : List UInt8) (i : Nat) (hi : i < b.length) (y : UInt8) : ((i32 (sum (b.set i (b[i] ^^^ y))) == i32 (sum b)) == ((y.toNat : Int) == 0)) = true := by
  have h0 : ((y.toNat : Int) == 0) = decide (y = 0) := by
    rw [Bool.eq_iff_iff]
    simp only [beq_iff_eq, decide_eq_true_eq]
    constructor
    · intro h
      exact UInt8.toNat_inj.1 (by simpa using h)
    · rintro rfl
      rfl
  have h1 : (i32 (sum (b.set i (b[i] ^^^ y))) == i32 (sum b)) = decide (y = 0) := by
    rw [Bool.eq_iff_iff]
    simp only [beq_iff_eq, decide_eq_true_eq]
    constructor
    · intro h
      have h := i32_inj h
      rw [List.set_eq_take_append_cons_drop, if_pos hi] at h
      have e : b = b.take i ++ b[i] :: b.drop (i + 1) := by rw [← List.drop_eq_getElem_cons hi, List.take_append_drop]
      have h' : sum (b.take i ++ (b[i] ^^^ y) :: b.drop (i + 1)) = sum (b.take i ++ b[i] :: b.drop (i + 1)) := by rw [← e]; exact h
      have h := sum_one _ _ _ _ h'
      have h2 := congrArg (b[i] ^^^ ·) h
      simp only [← UInt8.xor_assoc, UInt8.xor_self, UInt8.zero_xor] at h2
      exact h2
    · rintro rfl
      rw [UInt8.xor_zero, List.set_getElem_self]
  rw [h0, h1]
  simp

theorem one_ev (b : List UInt8) (x : Int) (y : UInt8) : cf (evFn cx0 ext0 10000) 3 [byt true b, .v (.int .i64 x), u8 y] = some (.v (.bool true)) := by
  have hw := works_at 9999 (by omega)
  have s1 : ∀ bx, sliceA Try.prog bx 22 (byt true b) none (some (.v (.int .i64 (min (b.length : Int) 300)))) none = some (byt true (b.take 300)) := fun bx => slc_min t8 bx b true .i64 300
  have lb : (b.take 300).length ≤ 300 := by simp; omega
  have n1 := len_b true b
  generalize b.take 300 = b' at *
  have b1 : callA (evFn cx0 ext0 9999) md_l02_CrcOne [] 10 [byt true b'] = some (.bsl 0 0 b'.length 1, [u8l b']) := by
    rw [callA_boxed (bx := []) (args := [byt true b']) rfl (bytes_raw 9998 true b' (by omega))]
    simp only [List.length_nil, List.nil_append, Option.some.injEq, Prod.mk.injEq, true_and]
    show [((((([[], u8l b'] : Bx))[1]?).getD [] |>.drop 0).take (b'.length * 1)).map AV.bare] = _
    simp [u8l_take, u8l_bare]
  unfold cf
  rw [E_l02_CrcOne]
  refine ends_cf (P := Try.prog) ?_
  unfold F_l02_CrcOne
  have hm := md_one
  have n2 := len_bsl 0 b'.length
  by_cases h0 : b'.length = 0
  · have h1 : ((b'.length : Int) == 0) = true := by simpa using h0
    have stq := (And.intro (hm) (And.intro (hw) (And.intro (s1) (And.intro (n1) (And.intro (n2) (And.intro (b1) (h1)))))))
    repeat first
      | ((with_reducible apply ends_bind); case h => first | (simp only [stp, stq]; rfl) | rfl)
      | ((with_reducible apply ends_t); case h => first | rfl | (simp only [stp, stq]; done))
      | ((with_reducible apply ends_f); case h => first | rfl | (simp only [stp, stq]; done))
    exact ends_some ⟨.inl rfl, _, rfl, rfl⟩
  · have h1 : ((b'.length : Int) == 0) = false := by simpa using h0
    obtain ⟨i, hi, ha⟩ := among_ev 9998 x b'.length (by omega) (by omega)
    have z1 : frz [u8l b', [.bsl 0 0 b'.length 1]] true 6 (.bsl 1 0 1 1) = .sl 1 [byt true b'] true := by
      show AV.sl 1 [frz _ true 5 (.bsl 0 0 b'.length 1)] true = _
      rw [frz_b8 true rfl rfl]
    have o1 := of1 (n := 9999) true true b' lb (by omega)
    have i1 := idx_b8 t8 0 0 b'.length .i64 i hi
    rw [Nat.zero_add] at i1
    have q1 := ld_b8 (P := Try.prog) (t := 5) (by kernel_rfl) (by kernel_rfl) [u8l b', [.bsl 0 0 b'.length 1]] 0 i b' rfl hi
    have x1 := xor8 b'[i] y
    have q2 := st_b8 (P := Try.prog) (t := 5) (by kernel_rfl) [u8l b', [.bsl 0 0 b'.length 1]] 0 i b' (b'[i] ^^^ y) rfl hi
    simp only [List.set_cons_zero] at q2
    have z2 : frz [u8l (b'.set i (b'[i] ^^^ y)), [.bsl 0 0 b'.length 1], [.bsl 0 0 b'.length 1]] true 6 (.bsl 2 0 1 1) = .sl 1 [byt true (b'.set i (b'[i] ^^^ y))] true := by
      show AV.sl 1 [frz _ true 5 (.bsl 0 0 b'.length 1)] true = _
      rw [frz_b8 (b := b'.set i (b'[i] ^^^ y)) true rfl (by simp)]
    have o2 := of1 (n := 9999) true true (b'.set i (b'[i] ^^^ y)) (by simpa using lb) (by omega)
    have hp := one_plain b' i hi y
    have stq := (And.intro (hm) (And.intro (hw) (And.intro (s1) (And.intro (n1) (And.intro (n2) (And.intro (b1) (And.intro (h1) (And.intro (ha) (And.intro (z1) (And.intro (o1) (And.intro (i1) (And.intro (q1) (And.intro (x1) (And.intro (q2) (And.intro (z2) (And.intro (o2) (And.intro (bs1b) (And.intro (beq_b) (hp)))))))))))))))))))
    repeat first
      | ((with_reducible apply ends_bind); case h => first | (simp only [stp, stq]; rfl) | rfl)
      | ((with_reducible apply ends_t); case h => first | rfl | (simp only [stp, stq]; done))
      | ((with_reducible apply ends_f); case h => first | rfl | (simp only [stp, stq]; done))
    exact ends_some ⟨.inl rfl, _, rfl, rfl⟩
end Go.Sy
