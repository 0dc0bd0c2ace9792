/-
  Layer 15: the arguments of the laws: patches, numbers.
-/
import Derived.Test.YtmkdhgigghgieaaPfPat
namespace Go.Sy
open Go.Proofs Num Crc Seal

theorem fit_ints {a : AV} (h : Fit (.sl [.int .i64]) a) : ∃ xs : List Int, xs.length ≤ maxLen ∧ a = isl true xs := by
  cases h with
  | sl row n l hn hl h =>
    simp only [List.length_cons, List.length_nil, Nat.zero_add, Nat.mul_one] at hl
    subst hl
    have : ∃ xs : List Int, l = il xs := by
      clear hn
      induction l with
      | nil => exact ⟨[], rfl⟩
      | cons x l ih =>
        obtain ⟨b, rfl⟩ := ih (fun i y c hy hc => h (i + 1) y c (by simpa using hy) (by simpa [Nat.mod_one] using hc))
        obtain ⟨v, rfl, _⟩ := fit_i64 (h 0 x (.int .i64) rfl (by simp))
        exact ⟨v :: b, rfl⟩
    obtain ⟨xs, rfl⟩ := this
    rw [il_len] at hn
    exact ⟨xs, hn, by rw [il_len]⟩
def prow : List Sh := [.int .i64, .int .i64, .int .i64, .sl [.int .u8], .int .i64, .sl [.int .i64], .int .i64, .int .i64, .bool]
theorem fit_pt {l : List AV} (h : ShFits prow l) : ∃ p : Pt, l = pt true p := by
  obtain ⟨h1, h2⟩ := h
  match l, h1 with
  | [a, b, c, d, e, f, g, i, j], _ =>
    obtain ⟨a, rfl, _⟩ := fit_i64 (h2 0 a _ rfl rfl)
    obtain ⟨b, rfl, _⟩ := fit_i64 (h2 1 b _ rfl rfl)
    obtain ⟨c, rfl, _⟩ := fit_i64 (h2 2 c _ rfl rfl)
    obtain ⟨d, _, rfl⟩ := fit_bytes (h2 3 d _ rfl rfl)
    obtain ⟨e, rfl, _⟩ := fit_i64 (h2 4 e _ rfl rfl)
    obtain ⟨f, _, rfl⟩ := fit_ints (h2 5 f _ rfl rfl)
    obtain ⟨g, rfl, _⟩ := fit_i64 (h2 6 g _ rfl rfl)
    obtain ⟨i, rfl, _⟩ := fit_i64 (h2 7 i _ rfl rfl)
    obtain ⟨j, rfl⟩ := fit_bool (h2 8 j _ rfl rfl)
    exact ⟨⟨a, b, c, d, e, f, g, i, j⟩, rfl⟩
theorem fit_flat (n : Nat) (l : List AV) (hl : l.length = n * 9) (h : ∀ (i : Nat) (x : AV) (c : Sh), l[i]? = some x → prow[i % 9]? = some c → Fit c x) : ∃ L : List Pt, L.length = n ∧ l = flatP true L := by
  induction n generalizing l with
  | zero => exact ⟨[], rfl, List.length_eq_zero_iff.1 (by omega)⟩
  | succ n ih =>
    obtain ⟨p, hp⟩ := fit_pt (l := l.take 9) ⟨by rw [List.length_take, hl]; show min 9 _ = 9; omega, fun i x c hx hc => by
      have hi : i < 9 := (List.getElem?_eq_some_iff.1 hc).1
      rw [List.getElem?_take_of_lt hi] at hx
      exact h i x c hx (by rw [Nat.mod_eq_of_lt hi]; exact hc)⟩
    obtain ⟨L, hL, e⟩ := ih (l.drop 9) (by rw [List.length_drop, hl]; omega) (fun i x c hx hc => h (9 + i) x c (by rw [← List.getElem?_drop]; exact hx) (by rw [Nat.add_mod_left]; exact hc))
    refine ⟨p :: L, by rw [List.length_cons, hL], ?_⟩
    show l = pt true p ++ flatP true L
    rw [← hp, ← e, List.take_append_drop]
theorem fit_pats {a : AV} (h : Fit (.sl prow) a) : ∃ L : List Pt, True ∧ a = psl true L := by
  cases h with
  | sl row n l hn hl h =>
    obtain ⟨L, rfl, rfl⟩ := fit_flat n l hl h
    exact ⟨L, trivial, rfl⟩
end Go.Sy
