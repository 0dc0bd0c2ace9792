/-
  Layer 12: the example works; whether a text is a name: the law DirentNames as the reader reads it.
-/
import Derived.Test.YtmegbgmgpogfoaaPfBase
namespace Go.Sy
open Go.Proofs Go.Proofs.Ytmegbgmgpogfoaa
theorem works_at (n : Nat) (h : 60 ≤ n) : cf (evFn cx0 ext0 n) 13 [] = some (.v (.bool true)) := by
  obtain ⟨m, rfl⟩ : ∃ m, n = m + 60 := ⟨n - 60, by omega⟩
  kernel_rfl
theorem n_tf : (!true) = false := rfl
theorem n_ft : (!false) = true := rfl
theorem ieq (x : Int) : (x == x) = true := by simp
theorem check_ev (m : Nat) (s : ByteArray) : cf (evFn cx0 ext0 (m + 1)) 11 [.v (.string s)] = some (.v (.int .i64 (Ytmegbgmgpogfoaa.chk s.data.toList))) := by
  have h1 : ext0 11 [.v (.string s)] [] = some (.v (.int .i64 (Ytmegbgmgpogfoaa.chk s.data.toList)), []) := rfl
  have h2 : evFn cx0 ext0 (m + 1) 11 [.v (.string s)] [] = some (.v (.int .i64 (Ytmegbgmgpogfoaa.chk s.data.toList)), []) := by
    unfold evFn
    rw [h1]
  unfold cf
  rw [h2]
  rfl
theorem len_s (s : ByteArray) : lenA Try.prog 9 (.v (.string s)) = some (.v (.int .i64 (s.size : Int))) := by kernel_rfl
theorem eq_dot (s : ByteArray) : binA Try.prog .eql 9 (.v (.string s)) (.v (.string (ByteArray.mk #[46]))) = some (.v (.bool (s.data.toList == [46]))) := by
  have h : binA Try.prog .eql 9 (.v (.string s)) (.v (.string (ByteArray.mk #[46]))) = some (.v (.bool (s.toList == (ByteArray.mk #[46]).toList))) := by kernel_rfl
  rw [h, lst, lst]
theorem eq_dots (s : ByteArray) : binA Try.prog .eql 9 (.v (.string s)) (.v (.string (ByteArray.mk #[46, 46]))) = some (.v (.bool (s.data.toList == [46, 46]))) := by
  have h : binA Try.prog .eql 9 (.v (.string s)) (.v (.string (ByteArray.mk #[46, 46]))) = some (.v (.bool (s.toList == (ByteArray.mk #[46, 46]).toList))) := by kernel_rfl
  rw [h, lst, lst]
theorem ix_s (s : ByteArray) (i : Nat) (hi : i < s.size) : indexA Try.prog 9 (.v (.string s)) (.v (.int .i64 i)) = some (.v (.int .u8 ((s[i]'hi).toNat : Int))) := by
  have h : indexA Try.prog 9 (.v (.string s)) (.v (.int .i64 i)) = if 0 ≤ (i : Int) ∧ (i : Int) < s.size then some (.v (.int .u8 (s.data.getD (i : Int).toNat 0).toNat)) else none := by kernel_rfl
  rw [h, if_pos ⟨by omega, by omega⟩, Int.toNat_natCast]
  have : s.data.getD i 0 = s[i]'hi := by
    rw [Array.getD_eq_getD_getElem?, Array.getElem?_eq_getElem (show i < s.data.size from hi)]
    rfl
  rw [this]
theorem rcheck_ev {n : Nat} (hn : 30 ≤ n) (s : ByteArray) : cf (evFn cx0 ext0 n) 12 [.v (.string s)] = some (.v (.int .i64 (Ytmegbgmgpogfoaa.chk s.data.toList))) := by
  obtain ⟨m, rfl⟩ : ∃ m, n = m + 1 := ⟨n - 1, by omega⟩
  have ls := len_s s
  have d1 := eq_dot s
  have d2 := eq_dots s
  have hl : s.data.toList.length = s.size := rfl
  unfold cf
  rw [E_r12_Check]
  refine ends_cf (P := Try.prog) ?_
  unfold F_r12_Check
  by_cases h0 : s.size < 1
  · have g0 : decide ((s.size : Int) < 1) = true := decide_eq_true (by omega)
    rw [chk_bad (show isName s.data.toList = false by unfold isName; rw [decide_eq_false (show ¬ 1 ≤ s.data.toList.length by omega)]; rfl)]
    have stq := (And.intro (ls) (g0))
    repeat first
      | ((with_reducible apply ends_bind); case h => first | (simp only [stp, stq]; first | done | rfl) | rfl)
      | ((with_reducible apply ends_t); case h => first | rfl | (simp only [stp, stq]; done))
      | ((with_reducible apply ends_f); case h => first | rfl | (simp only [stp, stq]; done))
    exact ends_some ⟨.inl rfl, _, rfl, rfl⟩
  have g0 : decide ((s.size : Int) < 1) = false := decide_eq_false (by omega)
  by_cases h1 : 10 < s.size
  · have g1 : decide ((10 : Int) < (s.size : Int)) = true := decide_eq_true (by omega)
    rw [chk_long (s := s) (by omega)]
    have stq := (And.intro (ls) (And.intro (g0) (g1)))
    repeat first
      | ((with_reducible apply ends_bind); case h => first | (simp only [stp, stq]; first | done | rfl) | rfl)
      | ((with_reducible apply ends_t); case h => first | rfl | (simp only [stp, stq]; done))
      | ((with_reducible apply ends_f); case h => first | rfl | (simp only [stp, stq]; done))
    exact ends_some ⟨.inl rfl, _, rfl, rfl⟩
  have g1 : decide ((10 : Int) < (s.size : Int)) = false := decide_eq_false (by omega)
  by_cases h2 : s.data.toList = [46]
  · have g2 : (s.data.toList == [46]) = true := by simp [h2]
    rw [chk_dot (by rw [lst]; exact h2)]
    have stq := (And.intro (ls) (And.intro (g0) (And.intro (g1) (And.intro (d1) (g2)))))
    repeat first
      | ((with_reducible apply ends_bind); case h => first | (simp only [stp, stq]; first | done | rfl) | rfl)
      | ((with_reducible apply ends_t); case h => first | rfl | (simp only [stp, stq]; done))
      | ((with_reducible apply ends_f); case h => first | rfl | (simp only [stp, stq]; done))
    exact ends_some ⟨.inl rfl, _, rfl, rfl⟩
  have g2 : (s.data.toList == [46]) = false := by simpa using h2
  by_cases h3 : s.data.toList = [46, 46]
  · have g3 : (s.data.toList == [46, 46]) = true := by simp [h3]
    rw [chk_dots (by rw [lst]; exact h3)]
    have stq := (And.intro (ls) (And.intro (g0) (And.intro (g1) (And.intro (d1) (And.intro (g2) (And.intro (d2) (g3)))))))
    repeat first
      | ((with_reducible apply ends_bind); case h => first | (simp only [stp, stq]; first | done | rfl) | rfl)
      | ((with_reducible apply ends_t); case h => first | rfl | (simp only [stp, stq]; done))
      | ((with_reducible apply ends_f); case h => first | rfl | (simp only [stp, stq]; done))
    exact ends_some ⟨.inl rfl, _, rfl, rfl⟩
  have g3 : (s.data.toList == [46, 46]) = false := by simpa using h3
  have stq := (And.intro (ls) (And.intro (g0) (And.intro (g1) (And.intro (d1) (And.intro (g2) (And.intro (d2) (g3)))))))
  repeat first
    | ((with_reducible apply ends_bind); case h => first | (simp only [stp, stq]; first | done | rfl) | rfl)
    | ((with_reducible apply ends_t); case h => first | rfl | (simp only [stp, stq]; done))
    | ((with_reducible apply ends_f); case h => first | rfl | (simp only [stp, stq]; done))
  refine ends_loop (fun k st => ∃ (i : Nat) (y19 y2 : AV), st = ⟨[(3, .v (.int .i64 i)), (19, y19), (2, y2), (0, .v (.string s))], []⟩ ∧ i + k = s.size ∧ ∀ j (_ : j < i) (hs : j < s.size), good (s[j]'hs).toNat = true) s.size (by omega) ⟨0, _, _, rfl, by omega, by intro j h; omega⟩ ?_
  rintro k st ⟨i, y19, y2, rfl, hik, hg⟩
  refine L_r12_Check_0_lit ?_
  unfold B_r12_Check_0
  rcases k with _ | k
  · have g4 : decide ((i : Int) < (s.size : Int)) = false := decide_eq_false (by omega)
    have stq := (And.intro (ls) (g4))
    repeat first
      | ((with_reducible apply ends_bind); case h => first | (simp only [stp, stq]; first | done | rfl) | rfl)
      | ((with_reducible apply ends_t); case h => first | rfl | (simp only [stp, stq]; done))
      | ((with_reducible apply ends_f); case h => first | rfl | (simp only [stp, stq]; done))
    refine ends_some (.inr (.inl ⟨0, rfl, X_r12_Check_0_0_lit (ends_some ⟨.inl rfl, _, rfl, ?_⟩)⟩))
    rw [chk_ok (fun e => by subst e; exact absurd rfl (show ¬ (ByteArray.empty.size = 0) by omega)) (by omega) (by rw [lst]; exact h2) (by rw [lst]; exact h3) (fun j h => hg j (by omega) h)]
    rfl
  · have g4 : decide ((i : Int) < (s.size : Int)) = true := decide_eq_true (by omega)
    have hi : i < s.size := by omega
    have x1 := ix_s s i hi
    have e3 : IntKind.i64.wrap ((i : Int) + 1) = ((i + 1 : Nat) : Int) := by rw [wrap64]; omega
    by_cases b1 : (s[i]'hi).toNat < 33
    · have k1 : decide (((s[i]'hi).toNat : Int) < 33) = true := decide_eq_true (by omega)
      rw [chk_at hi (by unfold good; rw [decide_eq_false (by omega)]; rfl)]
      have stq := (And.intro (ls) (And.intro (g4) (And.intro (x1) (k1))))
      repeat first
        | ((with_reducible apply ends_bind); case h => first | (simp only [stp, stq]; first | done | rfl) | rfl)
        | ((with_reducible apply ends_t); case h => first | rfl | (simp only [stp, stq]; done))
        | ((with_reducible apply ends_f); case h => first | rfl | (simp only [stp, stq]; done))
      exact ends_some (.inr (.inr ⟨rfl, .inl rfl, _, rfl, rfl⟩))
    have k1 : decide (((s[i]'hi).toNat : Int) < 33) = false := decide_eq_false (by omega)
    by_cases b2 : 126 < (s[i]'hi).toNat
    · have k2 : decide ((126 : Int) < ((s[i]'hi).toNat : Int)) = true := decide_eq_true (by omega)
      rw [chk_at hi (by unfold good; rw [decide_eq_false (show ¬ (s[i]'hi).toNat ≤ 126 by omega)]; simp)]
      have stq := (And.intro (ls) (And.intro (g4) (And.intro (x1) (And.intro (k1) (k2)))))
      repeat first
        | ((with_reducible apply ends_bind); case h => first | (simp only [stp, stq]; first | done | rfl) | rfl)
        | ((with_reducible apply ends_t); case h => first | rfl | (simp only [stp, stq]; done))
        | ((with_reducible apply ends_f); case h => first | rfl | (simp only [stp, stq]; done))
      exact ends_some (.inr (.inr ⟨rfl, .inl rfl, _, rfl, rfl⟩))
    have k2 : decide ((126 : Int) < ((s[i]'hi).toNat : Int)) = false := decide_eq_false (by omega)
    by_cases b3 : (s[i]'hi).toNat = 47
    · have k3 : (((s[i]'hi).toNat : Int) == 47) = true := by simp; omega
      rw [chk_at hi (by unfold good; rw [b3]; rfl)]
      have stq := (And.intro (ls) (And.intro (g4) (And.intro (x1) (And.intro (k1) (And.intro (k2) (k3))))))
      repeat first
        | ((with_reducible apply ends_bind); case h => first | (simp only [stp, stq]; first | done | rfl) | rfl)
        | ((with_reducible apply ends_t); case h => first | rfl | (simp only [stp, stq]; done))
        | ((with_reducible apply ends_f); case h => first | rfl | (simp only [stp, stq]; done))
      exact ends_some (.inr (.inr ⟨rfl, .inl rfl, _, rfl, rfl⟩))
    have k3 : (((s[i]'hi).toNat : Int) == 47) = false := by simp; omega
    have hgi : good (s[i]'hi).toNat = true := by
      unfold good
      rw [decide_eq_true (show 33 ≤ (s[i]'hi).toNat by omega), decide_eq_true (show (s[i]'hi).toNat ≤ 126 by omega)]
      simpa using b3
    have stq := (And.intro (ls) (And.intro (g4) (And.intro (x1) (And.intro (k1) (And.intro (k2) (And.intro (k3) (e3)))))))
    repeat first
      | ((with_reducible apply ends_bind); case h => first | (simp only [stp, stq]; first | done | rfl) | rfl)
      | ((with_reducible apply ends_t); case h => first | rfl | (simp only [stp, stq]; done))
      | ((with_reducible apply ends_f); case h => first | rfl | (simp only [stp, stq]; done))
    refine ends_some (.inl ⟨rfl, k, by omega, i + 1, _, _, by first | rfl | (rw [← e3]; rfl), by omega, fun j hj hs => ?_⟩)
    rcases Nat.lt_or_ge j i with h | h
    · exact hg j h hs
    · obtain rfl : j = i := by omega
      exact hgi
theorem names_ev (s : ByteArray) : cf (evFn cx0 ext0 1000) 4 [.v (.string s)] = some (.v (.bool true)) := by
  have hw := works_at 999 (by omega)
  have ls := len_s s
  have k1 : ∃ k : Nat, k ≤ s.size ∧ min (s.size : Int) 100 = (k : Int) := ⟨min s.size 100, by omega, by omega⟩
  obtain ⟨k, hk, e1⟩ := k1
  have s1 : ∀ bx, sliceA Try.prog bx 9 (.v (.string s)) none (some (.v (.int .i64 k))) none = some (.v (.string (s.extract 0 k))) := by
    intro bx
    have h : sliceA Try.prog bx 9 (.v (.string s)) none (some (.v (.int .i64 k))) none = (bndA s.size (.v (.int .i64 k))).bind fun h => some (.v (.string (s.extract 0 h))) := by kernel_rfl
    have hb : bndA s.size (.v (.int .i64 k)) = some k := by
      show (if 0 ≤ (k : Int) ∧ (k : Int) ≤ s.size then some (k : Int).toNat else none) = _
      rw [if_pos ⟨by omega, by omega⟩, Int.toNat_natCast]
    rw [h, hb]
    rfl
  have c1 : cf (evFn cx0 ext0 999) 11 [.v (.string (s.extract 0 k))] = _ := check_ev 998 _
  have c2 := rcheck_ev (n := 999) (by omega) (s.extract 0 k)
  generalize s.extract 0 k = s' at *
  have z := ieq (Ytmegbgmgpogfoaa.chk s'.data.toList)
  unfold cf
  rw [E_l12_DirentNames]
  refine ends_cf (P := Try.prog) ?_
  unfold F_l12_DirentNames
  have stq := (And.intro (ls) (And.intro (e1) (And.intro (s1) (And.intro (c1) (And.intro (c2) (And.intro (z) (hw)))))))
  repeat first
    | ((with_reducible apply ends_bind); case h => first | (simp only [stp, stq]; first | done | rfl) | rfl)
    | ((with_reducible apply ends_t); case h => first | rfl | (simp only [stp, stq]; done))
    | ((with_reducible apply ends_f); case h => first | rfl | (simp only [stp, stq]; done))
  exact ends_some ⟨.inl rfl, _, rfl, rfl⟩
end Go.Sy
