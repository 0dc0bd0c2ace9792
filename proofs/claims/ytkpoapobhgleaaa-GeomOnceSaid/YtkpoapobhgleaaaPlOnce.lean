/-
  Counts of sectors: the plain law under GeomOnce.
-/
import Derived.Test.YtkpoapobhgleaaaSyStep
namespace Go.Sy

def il (l : List Int) : List AV := l.map fun x => .v (.int .i64 x)
theorem il_len (l : List Int) : (il l).length = l.length := by simp [il]
theorem il_set (l : List Int) (i : Nat) (x : Int) : (il l).set i (.v (.int .i64 x)) = il (l.set i x) := by simp [il]
theorem il_get (l : List Int) (i : Nat) : (il l)[i]? = (l[i]?).map fun x => .v (.int .i64 x) := by simp [il]
theorem il_keep (l : List Int) (p : Nat → Bool) : (il l).map (AV.keep p) = il l := by
  unfold il
  rw [List.map_map]
  rfl

/-- is a sector counted: the first two, and those of which P tells -/
def cS (P : Nat → Nat → Bool) (S p : Nat) : Int := if p < 2 then 1 else if P ((p - 2) / S) ((p - 2) % S) then 1 else 0
def seen (P : Nat → Nat → Bool) (S n : Nat) : List Int := (List.range n).map (cS P S)
theorem seen_len (P : Nat → Nat → Bool) (S n : Nat) : (seen P S n).length = n := by simp [seen]
theorem seen_get (P : Nat → Nat → Bool) (S n p : Nat) (h : p < n) : (seen P S n)[p]? = some (cS P S p) := by
  unfold seen
  rw [List.getElem?_map, List.getElem?_range h]
  rfl
theorem at_q {S g t : Nat} (h : t < S) : (2 + g * S + t - 2) / S = g ∧ (2 + g * S + t - 2) % S = t := by
  rw [show 2 + g * S + t - 2 = t + g * S by omega]
  rw [Nat.add_mul_div_right _ _ (by omega), Nat.div_eq_of_lt h, Nat.add_mul_mod_self_right, Nat.mod_eq_of_lt h]
  exact ⟨by omega, rfl⟩
theorem cS_at {P : Nat → Nat → Bool} {S g t : Nat} (h : t < S) : cS P S (2 + g * S + t) = if P g t then 1 else 0 := by
  unfold cS
  rw [if_neg (by omega), (at_q h).1, (at_q h).2]
theorem seen_upd {P P' : Nat → Nat → Bool} {S n g t : Nat} (h : t < S) (hP : ∀ q r, r < S → P' q r = (P q r || (decide (q = g) && decide (r = t)))) :
    (seen P S n).set (2 + g * S + t) 1 = seen P' S n := by
  apply List.ext_getElem?
  intro p
  by_cases hp : p < n
  · rw [seen_get P' S n p hp]
    by_cases hd : 2 + g * S + t = p
    · subst hd
      rw [List.getElem?_set_self (by rw [seen_len]; exact hp), cS_at h, hP g t h]
      simp
    · rw [List.getElem?_set_ne hd, seen_get P S n p hp]
      unfold cS
      by_cases h2 : p < 2
      · rw [if_pos h2, if_pos h2]
      · rw [if_neg h2, if_neg h2, hP _ _ (Nat.mod_lt _ (by omega))]
        have : (decide ((p - 2) / S = g) && decide ((p - 2) % S = t)) = false := by
          rw [Bool.and_eq_false_iff]
          by_cases h3 : (p - 2) / S = g
          · right
            rw [decide_eq_false_iff_not]
            intro h4
            have := Nat.div_add_mod (p - 2) S
            rw [h3, h4, Nat.mul_comm] at this
            omega
          · left
            exact decide_eq_false h3
        rw [this, Bool.or_false]
  · rw [List.getElem?_eq_none (by rw [List.length_set, seen_len]; omega), List.getElem?_eq_none (by rw [seen_len]; omega)]
theorem seen_congr {P P' : Nat → Nat → Bool} {S a : Nat} (h0 : 0 < S) (h : ∀ q r, q < a → r < S → P q r = P' q r) : seen P S (2 + a * S) = seen P' S (2 + a * S) := by
  apply List.ext_getElem?
  intro p
  by_cases hp : p < 2 + a * S
  · rw [seen_get P S _ p hp, seen_get P' S _ p hp]
    unfold cS
    by_cases h2 : p < 2
    · rw [if_pos h2, if_pos h2]
    · rw [if_neg h2, if_neg h2, h _ _ ((Nat.div_lt_iff_lt_mul h0).mpr (by omega)) (Nat.mod_lt _ h0)]
  · rw [List.getElem?_eq_none (by rw [seen_len]; omega), List.getElem?_eq_none (by rw [seen_len]; omega)]
theorem seen_zero (S n : Nat) (h : 2 ≤ n) : ((List.replicate n (0 : Int)).set 0 1).set 1 1 = seen (fun _ _ => false) S n := by
  apply List.ext_getElem?
  intro p
  by_cases hp : p < n
  · rw [seen_get _ S n p hp]
    unfold cS
    by_cases h1 : p = 1
    · subst h1
      rw [List.getElem?_set_self (by simpa using hp)]
      rfl
    · rw [List.getElem?_set_ne (by omega)]
      by_cases h2 : p = 0
      · subst h2
        rw [List.getElem?_set_self (by simpa using hp)]
        rfl
      · rw [List.getElem?_set_ne (by omega), List.getElem?_replicate, if_pos hp, if_neg (by omega)]
        rfl
  · rw [List.getElem?_eq_none (by simp; omega), List.getElem?_eq_none (by rw [seen_len]; omega)]
end Go.Sy
