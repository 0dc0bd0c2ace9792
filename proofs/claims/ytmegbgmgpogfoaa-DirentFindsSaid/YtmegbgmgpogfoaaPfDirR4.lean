/-
  Layer 12: all entries, where a name is, where there is room.
-/
import Derived.Test.YtmegbgmgpogfoaaLwDir3
namespace Go.Sy
open Go.Proofs Go.Proofs.Ytmegbgmgpogfoaa Num

/-! ## entries -/
def flatE (l : List (Int × ByteArray)) : List AV := l.flatMap fun e => ent e.1 e.2
theorem flatE_len (l : List (Int × ByteArray)) : (flatE l).length = l.length * 2 := by
  induction l with
  | nil => rfl
  | cons a l ih => unfold flatE at *; rw [List.flatMap_cons, List.length_append, ih, List.length_cons]; show 2 + _ = _; omega
theorem flatE_app (l : List (Int × ByteArray)) (a : Int × ByteArray) : flatE (l ++ [a]) = flatE l ++ ent a.1 a.2 := by
  unfold flatE
  rw [List.flatMap_append, List.flatMap_singleton]
theorem flatE_keep (p : Nat → Bool) (l : List (Int × ByteArray)) : (flatE l).map (AV.keep p) = flatE l := by
  induction l with
  | nil => rfl
  | cons a l ih => unfold flatE at *; rw [List.flatMap_cons, List.map_append, ih]; rfl
theorem flatE_frz (bx : Bx) (f : Bool) (d : Nat) (l : List (Int × ByteArray)) : (flatE l).map (frz bx f (d + 1)) = flatE l := by
  induction l with
  | nil => rfl
  | cons a l ih => unfold flatE at *; rw [List.flatMap_cons, List.map_append, ih]; rfl
theorem flatE_at (l : List (Int × ByteArray)) (i : Nat) (hi : i < l.length) : (flatE l).drop (i * 2) = .v (.int .i64 l[i].1) :: .v (.string l[i].2) :: flatE (l.drop (i + 1)) := by
  induction l generalizing i with
  | nil => simp at hi
  | cons a l ih =>
    rcases i with _ | i
    · rfl
    · have := ih i (by simpa using hi)
      unfold flatE at *
      rw [List.flatMap_cons, show (i + 1) * 2 = 2 + i * 2 by omega, ← List.drop_drop]
      exact this
/-- the entries that are right, of the first slots -/
def ents (p : List UInt8) : Nat → List (Int × ByteArray)
  | 0 => []
  | i + 1 => if (rdE (slB p i)).2.2 = 1 then ents p i ++ [((rdE (slB p i)).1, (rdE (slB p i)).2.1)] else ents p i
theorem ents_le (p : List UInt8) : ∀ i, (ents p i).length ≤ i
  | 0 => Nat.le_refl _
  | i + 1 => by
    have := ents_le p i
    unfold ents
    split
    · rw [List.length_append, List.length_singleton]; omega
    · omega
theorem bs_e (bx : Bx) (n : Int) (s : ByteArray) : buildSliceA Try.prog bx 45 1 [(0, .agg (ent n s))] = some (.bsl bx.length 0 1 2, bx ++ [ent n s]) := by kernel_rfl
theorem bs_0 (bx : Bx) : buildSliceA Try.prog bx 45 0 [] = some (.bsl bx.length 0 0 2, bx ++ [[]]) := by kernel_rfl
theorem app_e (p : List UInt8) (l : List (Int × ByteArray)) (n : Int) (s : ByteArray) (e : Nat) (he : e = 2 ∨ (e = 0 ∧ l.length = 0)) (hl : l.length < 100) :
    appA Try.prog 0 [u8l p, [], flatE l, ent n s, ent n s] 45 (.bsl 2 0 l.length e) (.bsl 4 0 1 2) = some (.bsl 2 0 (l.length + 1) 2, AV.keep (· != 2), [u8l p, [], flatE (l ++ [(n, s)]), ent n s, ent n s]) := by
  have h : appA Try.prog 0 [u8l p, [], flatE l, ent n s, ent n s] 45 (.bsl 2 0 l.length e) (.bsl 4 0 1 2) =
      if (ent n s).length = 1 * 2 ∧ 0 < 2 ∧ 2 = 2 ∧ 0 < 24 ∧ 24 ≤ 2 ^ 12 ∧ 1 < 2 ^ 32 then
        (if 0 = 0 ∧ 0 ≤ 2 ∧ (flatE l).length = l.length * 2 ∧ (e = 2 ∨ (e = 0 ∧ l.length = 0)) ∧ l.length < 2 ^ 32 then
          some (.bsl 2 0 (l.length + 1) (if l.length + 1 = 0 then e else 2), AV.keep (· != 2), ([u8l p, [], flatE l, ent n s, ent n s].map fun l => l.map (AV.keep (· != 2))).set 2 ((flatE l ++ ent n s).map (AV.keep (· != 2)))) else none) else none := by kernel_rfl
  rw [h, if_pos ⟨rfl, by omega, rfl, by omega, by omega, by omega⟩, if_pos ⟨rfl, by omega, flatE_len l, he, by omega⟩, if_neg (by omega)]
  simp only [List.map_cons, List.map_nil, u8l_keep, flatE_keep, ent_keep, List.set_cons_succ, List.set_cons_zero, ← flatE_app, List.map_append]
  rw [flatE_app]
theorem lds_e3 (A B C : List AV) (n : Int) (s : ByteArray) (r : Bx) : loadA Try.prog 23 (A :: B :: C :: ent n s :: r) (.bp 3 0) = some (.agg (ent n s)) := by kernel_rfl
theorem sts_e3 (A B C : List AV) (n n' : Int) (s s' : ByteArray) (r : Bx) : stA Try.prog 23 (A :: B :: C :: ent n s :: r) (.bp 3 0) (.agg (ent n' s')) = some (.v undef, A :: B :: C :: ent n' s' :: r) := by kernel_rfl
theorem frz_res (bx : Bx) (l : List (Int × ByteArray)) (e : Nat) (he : e = 2 ∨ (e = 0 ∧ l.length = 0)) (h : bx[2]? = some (flatE l)) : frz bx false 6 (.bsl 2 0 l.length e) = .sl l.length (flatE l) false := by
  unfold frz
  simp only [h]
  congr 1
  rw [List.drop_zero, List.take_of_length_le, flatE_frz]
  rw [flatE_len]
  rcases he with rfl | ⟨rfl, h0⟩ <;> omega
theorem All_ev {k : Nat} (hk : 80 ≤ k) (p : List UInt8) (hp : p.length = 54) : cf (evFn cx0 ext0 k) 18 [.agg (u8l p)] = some (.sl (ents p 4).length (flatE (ents p 4)) false) := by
  obtain ⟨m, rfl⟩ : ∃ m, k = m + 2 := ⟨k - 2, by omega⟩
  have al := al_e
  have zE0 : zE = ent 0 ⟨#[]⟩ := rfl
  simp only [zE0] at al
  unfold cf
  rw [E_dirent_All]
  refine ends_cf (P := Try.prog) ?_
  unfold F_dirent_All
  have stq := (box_agg)
  repeat first
    | ((with_reducible apply ends_bind); case h => first | (simp only [stp, stq]; first | done | rfl) | rfl)
    | ((with_reducible apply ends_t); case h => first | rfl | (simp only [stp, stq]; done))
    | ((with_reducible apply ends_f); case h => first | rfl | (simp only [stp, stq]; done))
  refine ends_loop (fun d st => ∃ (i : Nat) (e N : Nat) (y2 y0 : AV) (b0 b1 b2 : List AV), st = ⟨[(8, .v (.int .i64 i)), (3, .bsl 2 0 N e), (2, y2), (1, .bp 0 0), (0, y0)], [b0, b1, b2]⟩ ∧
    b0 = u8l p ∧ b1 = [] ∧ b2 = flatE (ents p i) ∧ (e = 2 ∨ (e = 0 ∧ (ents p i).length = 0)) ∧ N = (ents p i).length ∧ i + d = 4) 4 (by omega) ⟨0, 0, 0, _, _, _, _, _, rfl, rfl, rfl, rfl, .inr ⟨rfl, rfl⟩, rfl, by omega⟩ ?_
  rintro d st ⟨i, e, N, y2, y0, b0, b1, b2, rfl, rfl, rfl, rfl, he, rfl, hd⟩
  refine L_dirent_All_0_lit ?_
  unfold B_dirent_All_0
  rcases d with _ | d
  · have g2 : decide ((i : Int) < 4) = false := decide_eq_false (by omega)
    have stq := (g2)
    repeat first
      | ((with_reducible apply ends_bind); case h => first | (simp only [stp, stq]; first | done | rfl) | rfl)
      | ((with_reducible apply ends_t); case h => first | rfl | (simp only [stp, stq]; done))
      | ((with_reducible apply ends_f); case h => first | rfl | (simp only [stp, stq]; done))
    refine ends_some (.inr (.inl ⟨0, rfl, X_dirent_All_0_0_lit ?_⟩))
    unfold X_dirent_All_0_0
    obtain rfl : i = 4 := by omega
    refine ends_some ⟨.inl rfl, _, rfl, ?_⟩
    exact frz_res _ _ _ he rfl
  · have g2 : decide ((i : Int) < 4) = true := decide_eq_true (by omega)
    have lp := fun r => ld_a hL (P := Try.prog) (bx := u8l p :: r) (k := 0) (b := p) rfl hp
    have c1 := AtA_ev (k := m + 1) (by omega) p hp i
    rw [show atA p i = atV (slB p i) from if_pos ⟨by omega, by omega⟩] at c1
    unfold atV at c1
    have e3 : IntKind.i64.wrap ((i : Int) + 1) = ((i + 1 : Nat) : Int) := by rw [wrap64]; omega
    have hle := ents_le p i
    have hen : ents p (i + 1) = if (rdE (slB p i)).2.2 = 1 then ents p i ++ [((rdE (slB p i)).1, (rdE (slB p i)).2.1)] else ents p i := rfl
    have bse := bs_e
    by_cases h1 : (rdE (slB p i)).2.2 = 1
    · have q1 : ((rdE (slB p i)).2.2 == 1) = true := by simpa using h1
      rw [if_pos h1] at hen
      generalize (rdE (slB p i)).1 = n at *
      generalize (rdE (slB p i)).2.1 = s at *
      generalize (rdE (slB p i)).2.2 = t at *
      have ae := app_e p (ents p i) n s e he (by omega)
      have se := fun r => sts_e3 (u8l p) [] (flatE (ents p i)) 0 n ⟨#[]⟩ s r
      have le := fun r => lds_e3 (u8l p) [] (flatE (ents p i)) n s r
      have stq := (And.intro (g2) (And.intro (lp) (And.intro (frz_agg) (And.intro (c1) (And.intro (al) (And.intro (se) (And.intro (q1) (And.intro (le) (And.intro (bse) (And.intro (ae) (e3)))))))))))
      repeat first
        | ((with_reducible apply ends_bind); case h => first | (simp only [stp, stq]; first | done | rfl) | rfl)
        | ((with_reducible apply ends_t); case h => first | rfl | (simp only [stp, stq]; done))
        | ((with_reducible apply ends_f); case h => first | rfl | (simp only [stp, stq]; done))
      exact ends_some (.inl ⟨rfl, d, by omega, i + 1, 2, _, _, _, _, _, _, by first | rfl | (rw [← e3]; rfl), u8l_keep _ _, rfl, by rw [hen]; exact flatE_keep _ _, .inl rfl, by rw [hen, List.length_append, List.length_singleton], by omega⟩)
    · have q1 : ((rdE (slB p i)).2.2 == 1) = false := by simpa using h1
      rw [if_neg h1] at hen
      generalize (rdE (slB p i)).1 = n at *
      generalize (rdE (slB p i)).2.1 = s at *
      generalize (rdE (slB p i)).2.2 = t at *
      have se := fun r => sts_e3 (u8l p) [] (flatE (ents p i)) 0 n ⟨#[]⟩ s r
      have stq := (And.intro (g2) (And.intro (lp) (And.intro (frz_agg) (And.intro (c1) (And.intro (al) (And.intro (se) (And.intro (q1) (e3))))))))
      repeat first
        | ((with_reducible apply ends_bind); case h => first | (simp only [stp, stq]; first | done | rfl) | rfl)
        | ((with_reducible apply ends_t); case h => first | rfl | (simp only [stp, stq]; done))
        | ((with_reducible apply ends_f); case h => first | rfl | (simp only [stp, stq]; done))
      exact ends_some (.inl ⟨rfl, d, by omega, i + 1, e, _, _, _, _, _, _, by first | rfl | (rw [← e3]; rfl), u8l_keep _ _, rfl, by rw [hen]; exact flatE_keep _ _, by rw [hen]; exact he, by rw [hen], by omega⟩)
theorem rAll_ev {k : Nat} (hk : 80 ≤ k) (p : List UInt8) (hp : p.length = 54) : cf (evFn cx0 ext0 k) 19 [.agg (u8l p)] = some (.sl (ents p 4).length (flatE (ents p 4)) false) := by
  obtain ⟨m, rfl⟩ : ∃ m, k = m + 2 := ⟨k - 2, by omega⟩
  have al := al_e
  have zE0 : zE = ent 0 ⟨#[]⟩ := rfl
  simp only [zE0] at al
  have b0 := bs_0
  unfold cf
  rw [E_r12_All]
  refine ends_cf (P := Try.prog) ?_
  unfold F_r12_All
  have stq := (And.intro (box_agg) (b0))
  repeat first
    | ((with_reducible apply ends_bind); case h => first | (simp only [stp, stq]; first | done | rfl) | rfl)
    | ((with_reducible apply ends_t); case h => first | rfl | (simp only [stp, stq]; done))
    | ((with_reducible apply ends_f); case h => first | rfl | (simp only [stp, stq]; done))
  refine ends_loop (fun d st => ∃ (i N : Nat) (y2 y0 : AV) (b0 b1 b2 : List AV), st = ⟨[(4, .v (.int .i64 i)), (3, .bsl 2 0 N 2), (2, y2), (1, .bp 0 0), (0, y0)], [b0, b1, b2]⟩ ∧
    b0 = u8l p ∧ b1 = [] ∧ b2 = flatE (ents p i) ∧ N = (ents p i).length ∧ i + d = 4) 4 (by omega) ⟨0, 0, _, _, _, _, _, rfl, rfl, rfl, rfl, rfl, by omega⟩ ?_
  rintro d st ⟨i, N, y2, y0, b0, b1, b2, rfl, rfl, rfl, rfl, rfl, hd⟩
  refine L_r12_All_0_lit ?_
  unfold B_r12_All_0
  rcases d with _ | d
  · have g2 : decide ((i : Int) < 4) = false := decide_eq_false (by omega)
    have stq := (g2)
    repeat first
      | ((with_reducible apply ends_bind); case h => first | (simp only [stp, stq]; first | done | rfl) | rfl)
      | ((with_reducible apply ends_t); case h => first | rfl | (simp only [stp, stq]; done))
      | ((with_reducible apply ends_f); case h => first | rfl | (simp only [stp, stq]; done))
    refine ends_some (.inr (.inl ⟨0, rfl, X_r12_All_0_0_lit ?_⟩))
    unfold X_r12_All_0_0
    obtain rfl : i = 4 := by omega
    refine ends_some ⟨.inl rfl, _, rfl, ?_⟩
    exact frz_res _ _ _ (.inl rfl) rfl
  · have g2 : decide ((i : Int) < 4) = true := decide_eq_true (by omega)
    have lp := fun r => ld_a hL (P := Try.prog) (bx := u8l p :: r) (k := 0) (b := p) rfl hp
    have c1 := rAtA_ev (k := m + 1) (by omega) p hp i
    rw [show atA p i = atV (slB p i) from if_pos ⟨by omega, by omega⟩] at c1
    unfold atV at c1
    have e3 : IntKind.i64.wrap ((i : Int) + 1) = ((i + 1 : Nat) : Int) := by rw [wrap64]; omega
    have hle := ents_le p i
    have hen : ents p (i + 1) = if (rdE (slB p i)).2.2 = 1 then ents p i ++ [((rdE (slB p i)).1, (rdE (slB p i)).2.1)] else ents p i := rfl
    have bse := bs_e
    by_cases h1 : (rdE (slB p i)).2.2 = 1
    · have q1 : ((rdE (slB p i)).2.2 == 1) = true := by simpa using h1
      rw [if_pos h1] at hen
      generalize (rdE (slB p i)).1 = n at *
      generalize (rdE (slB p i)).2.1 = s at *
      generalize (rdE (slB p i)).2.2 = t at *
      have ae := app_e p (ents p i) n s 2 (.inl rfl) (by omega)
      have se := fun r => sts_e3 (u8l p) [] (flatE (ents p i)) 0 n ⟨#[]⟩ s r
      have le := fun r => lds_e3 (u8l p) [] (flatE (ents p i)) n s r
      have stq := (And.intro (g2) (And.intro (lp) (And.intro (frz_agg) (And.intro (c1) (And.intro (al) (And.intro (se) (And.intro (q1) (And.intro (le) (And.intro (bse) (And.intro (ae) (e3)))))))))))
      repeat first
        | ((with_reducible apply ends_bind); case h => first | (simp only [stp, stq]; first | done | rfl) | rfl)
        | ((with_reducible apply ends_t); case h => first | rfl | (simp only [stp, stq]; done))
        | ((with_reducible apply ends_f); case h => first | rfl | (simp only [stp, stq]; done))
      exact ends_some (.inl ⟨rfl, d, by omega, i + 1, _, _, _, _, _, _, by first | rfl | (rw [← e3]; rfl), u8l_keep _ _, rfl, by rw [hen]; exact flatE_keep _ _, by rw [hen, List.length_append, List.length_singleton], by omega⟩)
    · have q1 : ((rdE (slB p i)).2.2 == 1) = false := by simpa using h1
      rw [if_neg h1] at hen
      generalize (rdE (slB p i)).1 = n at *
      generalize (rdE (slB p i)).2.1 = s at *
      generalize (rdE (slB p i)).2.2 = t at *
      have se := fun r => sts_e3 (u8l p) [] (flatE (ents p i)) 0 n ⟨#[]⟩ s r
      have stq := (And.intro (g2) (And.intro (lp) (And.intro (frz_agg) (And.intro (c1) (And.intro (al) (And.intro (se) (And.intro (q1) (e3))))))))
      repeat first
        | ((with_reducible apply ends_bind); case h => first | (simp only [stp, stq]; first | done | rfl) | rfl)
        | ((with_reducible apply ends_t); case h => first | rfl | (simp only [stp, stq]; done))
        | ((with_reducible apply ends_f); case h => first | rfl | (simp only [stp, stq]; done))
      exact ends_some (.inl ⟨rfl, d, by omega, i + 1, _, _, _, _, _, _, by first | rfl | (rw [← e3]; rfl), u8l_keep _ _, rfl, by rw [hen]; exact flatE_keep _ _, by rw [hen], by omega⟩)
end Go.Sy
