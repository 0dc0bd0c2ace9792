/-
  Layer 15: numbers are looked for; some patches, the others.
-/
import Derived.Test.YtmkdhgigghgieaaPfRollA
namespace Go.Sy
open Go.Proofs Num Crc Seal

theorem idx_i (f : Bool) (l : List Int) (i : Nat) (hi : i < l.length) : indexAddrA Try.prog 32 (isl f l) (.v (.int .i64 i)) = some (.ip (.v (.int .i64 l[i]) :: il (l.drop (i + 1))) f) := by
  have h : indexAddrA Try.prog 32 (isl f l) (.v (.int .i64 i)) = (idxI l.length 0 1 (.v (.int .i64 i))).bind fun o => if l.length * 1 ≤ (il l).length then some (.ip ((il l).drop o) f) else none := by kernel_rfl
  have e : idxI l.length 0 1 (.v (.int .i64 i)) = some i := by
    show (if 0 ≤ (i : Int) ∧ (i : Int) < l.length then some (0 + (i : Int).toNat * 1) else none) = _
    rw [if_pos ⟨by omega, by omega⟩, Int.toNat_natCast, Nat.zero_add, Nat.mul_one]
  rw [h, e, Option.bind_some, if_pos (by rw [il_len]; omega)]
  unfold il
  rw [← List.map_drop, List.drop_eq_getElem_cons hi]
  rfl
theorem ld_i (bx : Bx) (f : Bool) (x : Int) (r : List AV) : loadA Try.prog 3 bx (.ip (.v (.int .i64 x) :: r) f) = some (.v (.int .i64 x)) := by kernel_rfl
theorem frz_isl (bx : Bx) (f : Bool) (l : List Int) : frz bx true 6 (isl f l) = isl f l := by cases f <;> rfl
/-- the first place of a number, or -1 -/
def ixF (x : Int) : Nat → List Int → Int
  | _, [] => -1
  | j, y :: r => if x == y then (j : Int) else ixF x (j + 1) r
theorem ixF_cons (x : Int) (j : Nat) (y : Int) (r : List Int) : ixF x j (y :: r) = if x == y then (j : Int) else ixF x (j + 1) r := rfl
theorem ixF_has (x : Int) (j : Nat) (l : List Int) : decide (0 ≤ ixF x j l) = l.contains x := by
  induction l generalizing j with
  | nil => rfl
  | cons y r ih =>
    unfold ixF
    rw [List.contains_cons]
    by_cases h : (x == y) = true
    · rw [if_pos h, h]
      simp
    · rw [if_neg h, ih]
      have : (x == y) = false := by simpa using h
      rw [this, Bool.false_or]
theorem index_ev {n : Nat} (f : Bool) (l : List Int) (x : Int) (hn : l.length + 1 ≤ n) (hl : l.length < 2 ^ 48) :
    cf (evFn cx0 ext0 (n + 1)) 49 [isl f l, .v (.int .i64 x)] = some (.v (.int .i64 (ixF x 0 l))) := by
  have ln := len_i f l
  unfold cf
  rw [E_slices_Index_int_int]
  refine ends_cf (P := Try.prog) ?_
  unfold F_slices_Index_int_int
  have stq := (ln)
  repeat first
    | ((with_reducible apply ends_bind); case h => first | (simp only [stp, stq]; first | done | rfl) | rfl)
    | ((with_reducible apply ends_t); case h => first | rfl | (simp only [stp, stq]; done))
    | ((with_reducible apply ends_f); case h => first | rfl | (simp only [stp, stq]; done))
  refine ends_loop (fun d s => ∃ (j : Nat) (y4 : AV), s = ⟨[(8, .v (.int .i64 j)), (7, .v (.int .i64 l.length)), (4, y4), (0, isl f l), (1, .v (.int .i64 x))], []⟩ ∧ ixF x 0 l = ixF x j (l.drop j) ∧ j + d = l.length) l.length (by omega) ⟨0, _, rfl, by rw [List.drop_zero], by omega⟩ ?_
  rintro d s ⟨j, y4, rfl, hj, hd⟩
  refine L_slices_Index_int_int_0_lit ?_
  unfold B_slices_Index_int_int_0
  by_cases hx : j < l.length
  · have g0 : decide ((j : Int) < (l.length : Int)) = true := decide_eq_true (by omega)
    have i0 := idx_i f l j hx
    have l0 := fun bx => ld_i bx f l[j] (il (l.drop (j + 1)))
    have e3 : IntKind.i64.wrap ((j : Int) + 1) = ((j + 1 : Nat) : Int) := by rw [wrap64]; omega
    rw [List.drop_eq_getElem_cons hx, ixF_cons] at hj
    by_cases z : (x == l[j]) = true
    · rw [if_pos z] at hj
      rw [hj]
      have stq := (And.intro (g0) (And.intro (i0) (And.intro (l0) (z))))
      repeat first
        | ((with_reducible apply ends_bind); case h => first | (simp only [stp, stq]; first | done | rfl) | rfl)
        | ((with_reducible apply ends_t); case h => first | rfl | (simp only [stp, stq]; done))
        | ((with_reducible apply ends_f); case h => first | rfl | (simp only [stp, stq]; done))
      exact ends_some (.inr (.inr ⟨rfl, .inl rfl, _, rfl, rfl⟩))
    · rw [if_neg z] at hj
      have z : (x == l[j]) = false := by simpa using z
      have stq := (And.intro (g0) (And.intro (i0) (And.intro (l0) (And.intro (z) (e3)))))
      repeat first
        | ((with_reducible apply ends_bind); case h => first | (simp only [stp, stq]; first | done | rfl) | rfl)
        | ((with_reducible apply ends_t); case h => first | rfl | (simp only [stp, stq]; done))
        | ((with_reducible apply ends_f); case h => first | rfl | (simp only [stp, stq]; done))
      exact ends_some (.inl ⟨rfl, d - 1, by omega, j + 1, _, by first | rfl | (rw [← e3]; rfl), hj, by omega⟩)
  · have g0 : decide ((j : Int) < (l.length : Int)) = false := decide_eq_false (by omega)
    rw [List.drop_eq_nil_of_le (by omega)] at hj
    rw [show ixF x 0 l = -1 from hj]
    have stq := (g0)
    repeat first
      | ((with_reducible apply ends_bind); case h => first | (simp only [stp, stq]; first | done | rfl) | rfl)
      | ((with_reducible apply ends_t); case h => first | rfl | (simp only [stp, stq]; done))
      | ((with_reducible apply ends_f); case h => first | rfl | (simp only [stp, stq]; done))
    exact ends_some (.inr (.inl ⟨0, rfl, X_slices_Index_int_int_0_0_lit (ends_some ⟨.inl rfl, _, rfl, rfl⟩)⟩))
theorem contains_ev {n : Nat} (f : Bool) (l : List Int) (x : Int) (hn : l.length + 3 ≤ n) (hl : l.length < 2 ^ 48) :
    cf (evFn cx0 ext0 n) 37 [isl f l, .v (.int .i64 x)] = some (.v (.bool (l.contains x))) := by
  obtain ⟨m, rfl⟩ : ∃ m, n = m + 2 := ⟨n - 2, by omega⟩
  have c1 := index_ev (n := m) f l x (by omega) hl
  have fz := fun bx => frz_isl bx f l
  rw [← ixF_has x 0 l]
  unfold cf
  rw [E_slices_Contains_int_int]
  refine ends_cf (P := Try.prog) ?_
  unfold F_slices_Contains_int_int
  have stq := (And.intro (fz) (c1))
  repeat first
    | ((with_reducible apply ends_bind); case h => first | (simp only [stp, stq]; first | done | rfl) | rfl)
    | ((with_reducible apply ends_t); case h => first | rfl | (simp only [stp, stq]; done))
    | ((with_reducible apply ends_f); case h => first | rfl | (simp only [stp, stq]; done))
  exact ends_some ⟨.inl rfl, _, rfl, rfl⟩
theorem has_ev {n : Nat} (f : Bool) (l : List Int) (x : Int) (hn : l.length + 2 ≤ n) (hl : l.length < 2 ^ 48) :
    cf (evFn cx0 ext0 n) 38 [isl f l, .v (.int .i64 x)] = some (.v (.bool (l.contains x))) := by
  obtain ⟨m, rfl⟩ : ∃ m, n = m + 1 := ⟨n - 1, by omega⟩
  have ln := len_i f l
  unfold cf
  rw [E_r15_has]
  refine ends_cf (P := Try.prog) ?_
  unfold F_r15_has
  refine ends_loop (fun d s => ∃ (j : Nat) (y4 : AV), s = ⟨[(5, .v (.int .i64 j)), (4, y4), (0, isl f l), (1, .v (.int .i64 x))], []⟩ ∧ l.contains x = (l.drop j).contains x ∧ j + d = l.length) l.length (by omega) ⟨0, _, rfl, by rw [List.drop_zero], by omega⟩ ?_
  rintro d s ⟨j, y4, rfl, hj, hd⟩
  refine L_r15_has_0_lit ?_
  unfold B_r15_has_0
  by_cases hx : j < l.length
  · have g0 : decide ((j : Int) < (l.length : Int)) = true := decide_eq_true (by omega)
    have i0 := idx_i f l j hx
    have l0 := fun bx => ld_i bx f l[j] (il (l.drop (j + 1)))
    have e3 : IntKind.i64.wrap ((j : Int) + 1) = ((j + 1 : Nat) : Int) := by rw [wrap64]; omega
    rw [List.drop_eq_getElem_cons hx, List.contains_cons] at hj
    by_cases z : l[j] = x
    · have z1 : (l[j] == x) = true := by simp [z]
      have hj : l.contains x = true := by rw [hj, z]; simp
      rw [hj]
      have stq := (And.intro (ln) (And.intro (g0) (And.intro (i0) (And.intro (l0) (z1)))))
      repeat first
        | ((with_reducible apply ends_bind); case h => first | (simp only [stp, stq]; first | done | rfl) | rfl)
        | ((with_reducible apply ends_t); case h => first | rfl | (simp only [stp, stq]; done))
        | ((with_reducible apply ends_f); case h => first | rfl | (simp only [stp, stq]; done))
      exact ends_some (.inr (.inr ⟨rfl, .inl rfl, _, rfl, rfl⟩))
    · have z1 : (l[j] == x) = false := by simpa using z
      have hj : l.contains x = (l.drop (j + 1)).contains x := by
        rw [hj, show (x == l[j]) = false by simpa using fun h => z h.symm, Bool.false_or]
      have stq := (And.intro (ln) (And.intro (g0) (And.intro (i0) (And.intro (l0) (And.intro (z1) (e3))))))
      repeat first
        | ((with_reducible apply ends_bind); case h => first | (simp only [stp, stq]; first | done | rfl) | rfl)
        | ((with_reducible apply ends_t); case h => first | rfl | (simp only [stp, stq]; done))
        | ((with_reducible apply ends_f); case h => first | rfl | (simp only [stp, stq]; done))
      exact ends_some (.inl ⟨rfl, d - 1, by omega, j + 1, _, by first | rfl | (rw [← e3]; rfl), hj, by omega⟩)
  · have g0 : decide ((j : Int) < (l.length : Int)) = false := decide_eq_false (by omega)
    rw [List.drop_eq_nil_of_le (by omega)] at hj
    rw [show l.contains x = false from hj]
    have stq := (And.intro (ln) (g0))
    repeat first
      | ((with_reducible apply ends_bind); case h => first | (simp only [stp, stq]; first | done | rfl) | rfl)
      | ((with_reducible apply ends_t); case h => first | rfl | (simp only [stp, stq]; done))
      | ((with_reducible apply ends_f); case h => first | rfl | (simp only [stp, stq]; done))
    exact ends_some (.inr (.inl ⟨0, rfl, X_r15_has_0_0_lit (ends_some ⟨.inl rfl, _, rfl, rfl⟩)⟩))
theorem hasInt_ev {n : Nat} (f : Bool) (l : List Int) (x : Int) (hn : l.length + 2 ≤ n) (hl : l.length < 2 ^ 48) :
    cf (evFn cx0 ext0 n) 24 [isl f l, .v (.int .i64 x)] = some (.v (.bool (l.contains x))) := by
  obtain ⟨m, rfl⟩ : ∃ m, n = m + 1 := ⟨n - 1, by omega⟩
  have ln := len_i f l
  unfold cf
  rw [E_base_HasInt]
  refine ends_cf (P := Try.prog) ?_
  unfold F_base_HasInt
  refine ends_loop (fun d s => ∃ (j : Nat) (y4 : AV), s = ⟨[(5, .v (.int .i64 j)), (4, y4), (0, isl f l), (1, .v (.int .i64 x))], []⟩ ∧ l.contains x = (l.drop j).contains x ∧ j + d = l.length) l.length (by omega) ⟨0, _, rfl, by rw [List.drop_zero], by omega⟩ ?_
  rintro d s ⟨j, y4, rfl, hj, hd⟩
  refine L_base_HasInt_0_lit ?_
  unfold B_base_HasInt_0
  by_cases hx : j < l.length
  · have g0 : decide ((j : Int) < (l.length : Int)) = true := decide_eq_true (by omega)
    have i0 := idx_i f l j hx
    have l0 := fun bx => ld_i bx f l[j] (il (l.drop (j + 1)))
    have e3 : IntKind.i64.wrap ((j : Int) + 1) = ((j + 1 : Nat) : Int) := by rw [wrap64]; omega
    rw [List.drop_eq_getElem_cons hx, List.contains_cons] at hj
    by_cases z : l[j] = x
    · have z1 : (l[j] == x) = true := by simp [z]
      have hj : l.contains x = true := by rw [hj, z]; simp
      rw [hj]
      have stq := (And.intro (ln) (And.intro (g0) (And.intro (i0) (And.intro (l0) (z1)))))
      repeat first
        | ((with_reducible apply ends_bind); case h => first | (simp only [stp, stq]; first | done | rfl) | rfl)
        | ((with_reducible apply ends_t); case h => first | rfl | (simp only [stp, stq]; done))
        | ((with_reducible apply ends_f); case h => first | rfl | (simp only [stp, stq]; done))
      exact ends_some (.inr (.inr ⟨rfl, .inl rfl, _, rfl, rfl⟩))
    · have z1 : (l[j] == x) = false := by simpa using z
      have hj : l.contains x = (l.drop (j + 1)).contains x := by
        rw [hj, show (x == l[j]) = false by simpa using fun h => z h.symm, Bool.false_or]
      have stq := (And.intro (ln) (And.intro (g0) (And.intro (i0) (And.intro (l0) (And.intro (z1) (e3))))))
      repeat first
        | ((with_reducible apply ends_bind); case h => first | (simp only [stp, stq]; first | done | rfl) | rfl)
        | ((with_reducible apply ends_t); case h => first | rfl | (simp only [stp, stq]; done))
        | ((with_reducible apply ends_f); case h => first | rfl | (simp only [stp, stq]; done))
      exact ends_some (.inl ⟨rfl, d - 1, by omega, j + 1, _, by first | rfl | (rw [← e3]; rfl), hj, by omega⟩)
  · have g0 : decide ((j : Int) < (l.length : Int)) = false := decide_eq_false (by omega)
    rw [List.drop_eq_nil_of_le (by omega)] at hj
    rw [show l.contains x = false from hj]
    have stq := (And.intro (ln) (g0))
    repeat first
      | ((with_reducible apply ends_bind); case h => first | (simp only [stp, stq]; first | done | rfl) | rfl)
      | ((with_reducible apply ends_t); case h => first | rfl | (simp only [stp, stq]; done))
      | ((with_reducible apply ends_f); case h => first | rfl | (simp only [stp, stq]; done))
    exact ends_some (.inr (.inl ⟨0, rfl, X_base_HasInt_0_0_lit (ends_some ⟨.inl rfl, _, rfl, rfl⟩)⟩))

/-! ## some of the patches -/
theorem ld_ips (bx : Bx) (f g : Bool) (l : List Int) : loadA Try.prog 32 bx (.ip [isl f l] g) = some (isl f l) := by kernel_rfl
theorem some1_ev {n : Nat} (f g : Bool) (l : List Int) (x : Int) (hn : l.length + 4 ≤ n) (hl : l.length < 2 ^ 48) :
    cf (evFn cx0 ext0 n) 36 [.v (.int .i64 x), .ip [isl f l] g] = some (.v (.bool (l.contains x))) := by
  obtain ⟨m, rfl⟩ : ∃ m, n = m + 1 := ⟨n - 1, by omega⟩
  have c1 := contains_ev (n := m) f l x (by omega) hl
  have fz := fun bx => frz_isl bx f l
  have l0 := fun bx => ld_ips bx f g l
  unfold cf
  rw [E_roll_Some_1]
  refine ends_cf (P := Try.prog) ?_
  unfold F_roll_Some_1
  have stq := (And.intro (fz) (And.intro (l0) (c1)))
  repeat first
    | ((with_reducible apply ends_bind); case h => first | (simp only [stp, stq]; first | done | rfl) | rfl)
    | ((with_reducible apply ends_t); case h => first | rfl | (simp only [stp, stq]; done))
    | ((with_reducible apply ends_f); case h => first | rfl | (simp only [stp, stq]; done))
  exact ends_some ⟨.inl rfl, _, rfl, rfl⟩
theorem frz_fnc (A : List AV) (f : Bool) (l : List Int) (r : Bx) : frz (A :: [isl f l] :: r) true 6 (.fn 36 [] [.bp 1 0]) = .fn 36 [] [.ip [isl f l] true] := by cases f <;> rfl
theorem Some_gen {n : Nat} (hn : 490 ≤ n) (f g : Bool) (b : List UInt8) (hb : b.length = 64) (L : List Pt) (hL20 : L.length ≤ 400) (hd : ∀ p ∈ L, p.data.length < 2 ^ 32) (ids : List Int) (hi : ids.length + 10 ≤ n) (hi2 : ids.length < 2 ^ 48) :
    cf (evFn cx0 ext0 n) 18 [.agg (u8l b), psg f L, isl g ids] = some (overV b (foldP (fun x => ids.contains x) (nxtT b) L b)) := by
  obtain ⟨m, rfl⟩ : ∃ m, n = m + 3 := ⟨n - 3, by omega⟩
  have hv : ∀ bx x, callV (evFn cx0 ext0 (m + 1)) md0 bx [.v (.int .i64 x)] (.fn 36 [] [.ip [isl g ids] true]) = some (.v (.bool (ids.contains x)), bx) := by
    intro bx x
    have h : callV (evFn cx0 ext0 (m + 1)) md0 bx [.v (.int .i64 x)] (.fn 36 [] [.ip [isl g ids] true]) = callA (evFn cx0 ext0 (m + 1)) md0 bx 36 [.v (.int .i64 x), .ip [isl g ids] true] := rfl
    rw [h, call_f]
    have fz : frz bx true 6 (.ip [isl g ids] true) = .ip [isl g ids] true := rfl
    simp only [List.map_cons, List.map_nil, frz_v, fz]
    rw [some1_ev g true ids x (by omega) hi2]
    rfl
  have c1 := over_gen (n := m + 1) (by omega) f b hb L hL20 hd (.fn 36 [] [.ip [isl g ids] true]) (fun x => ids.contains x) (fun _ => rfl) hv
  have hlen : ∀ d, foldP (fun x => ids.contains x) (nxtT b) L b = some d → d.length = 64 := fun d h => foldP_len _ _ _ _ _ hb h
  have lB := lds hB
  have sB := sts hB
  have aB := al_a hB
  have zl6 : (zero 64).length = 64 := rfl
  have fp : ∀ bx, frz bx true 6 (psg f L) = psg f L := fun bx => frz_psg bx f L
  have bi : ∀ bx, boxA bx (isl g ids) = some (.bp bx.length 0, bx ++ [[isl g ids]]) := fun _ => rfl
  have ff := fun A r => frz_fnc A g ids r
  unfold cf
  rw [E_roll_Some]
  refine ends_cf (P := Try.prog) ?_
  unfold F_roll_Some
  generalize foldP (fun x => ids.contains x) (nxtT b) L b = R at *
  rcases R with _ | d
  · unfold overV at c1 ⊢
    have stq := (And.intro (box_agg) (And.intro (bi) (And.intro (aB) (And.intro (lB) (And.intro (sB) (And.intro (hb) (And.intro (zl6) (And.intro (frz_agg) (And.intro (fp) (And.intro (ff) (c1)))))))))))
    repeat first
      | ((with_reducible apply ends_bind); case h => first | (simp only [stp, stq]; first | done | rfl) | rfl)
      | ((with_reducible apply ends_t); case h => first | rfl | (simp only [stp, stq]; done))
      | ((with_reducible apply ends_f); case h => first | rfl | (simp only [stp, stq]; done))
    exact ends_some (retq_ct (ld_a hB (b := b) rfl hb) (frz_agg _ _ _ _))
  · have hdl := hlen d rfl
    unfold overV at c1 ⊢
    have stq := (And.intro (box_agg) (And.intro (bi) (And.intro (aB) (And.intro (lB) (And.intro (sB) (And.intro (hb) (And.intro (hdl) (And.intro (zl6) (And.intro (frz_agg) (And.intro (fp) (And.intro (ff) (c1))))))))))))
    repeat first
      | ((with_reducible apply ends_bind); case h => first | (simp only [stp, stq]; first | done | rfl) | rfl)
      | ((with_reducible apply ends_t); case h => first | rfl | (simp only [stp, stq]; done))
      | ((with_reducible apply ends_f); case h => first | rfl | (simp only [stp, stq]; done))
    exact ends_some (retq_ct (ld_a hB (b := d) rfl hdl) (frz_agg _ _ _ _))

/-! ## the others -/
theorem app_pg (n0 : Nat) (bx : Bx) (b k : Nat) (l : List Pt) (p : Pt) (e : Nat) (hb : bx[b]? = some (flatP false l)) (hk : bx[k]? = some (pt false p)) (h0 : n0 ≤ b) (he : e = 9 ∨ (e = 0 ∧ l.length = 0)) (hl : l.length < 500) :
    appA Try.prog n0 bx 24 (.bsl b 0 l.length e) (.bsl k 0 1 9) = some (.bsl b 0 (l.length + 1) 9, AV.keep (· != b), (bx.map fun l => l.map (AV.keep (· != b))).set b (flatP false (l ++ [p]))) := by
  have h : appA Try.prog n0 bx 24 (.bsl b 0 l.length e) (.bsl k 0 1 9) = (readA bx (.bsl k 0 1 9)).bind fun (m, ys) =>
      if ys.length = m * 9 ∧ 0 < 9 ∧ 9 = 9 ∧ 0 < 104 ∧ m * 104 ≤ 2 ^ 47 ∧ m < 2 ^ 48 then
        (bx[b]?).bind fun c => (if 0 = 0 ∧ n0 ≤ b ∧ c.length = l.length * 9 ∧ (e = 9 ∨ (e = 0 ∧ l.length = 0)) ∧ (l.length + m) * 104 ≤ 2 ^ 47 then
          some (.bsl b 0 (l.length + m) (if l.length + m = 0 then e else 9), AV.keep (· != b), (bx.map fun l => l.map (AV.keep (· != b))).set b ((c ++ ys).map (AV.keep (· != b)))) else none) else none := by kernel_rfl
  have hr : readA bx (.bsl k 0 1 9) = some (1, pt false p) := by
    show (bx[k]?).map (fun l => (1, (l.drop 0).take (1 * 9))) = _
    rw [hk]
    rfl
  rw [h, hr, Option.bind_some]
  show (if (pt false p).length = 1 * 9 ∧ 0 < 9 ∧ 9 = 9 ∧ 0 < 104 ∧ 1 * 104 ≤ 2 ^ 47 ∧ 1 < 2 ^ 48 then _ else none) = _
  rw [if_pos ⟨rfl, by omega, rfl, by omega, by omega, by omega⟩, hb, Option.bind_some, if_pos ⟨rfl, h0, flatP_len false l, he, by omega⟩, if_neg (by omega), ← flatP_app, flatP_keep]
def wo (ids : List Int) (l : List Pt) : List Pt := l.filter fun p => !ids.contains p.id
theorem wo_snoc (ids : List Int) (l : List Pt) (p : Pt) : wo ids (l ++ [p]) = if ids.contains p.id then wo ids l else wo ids l ++ [p] := by
  unfold wo
  rw [List.filter_append]
  by_cases h : ids.contains p.id = true
  · rw [if_pos h, List.filter_cons_of_neg (by rw [h]; decide), List.filter_nil, List.append_nil]
  · have h' : ids.contains p.id = false := by simpa using h
    rw [if_neg h, List.filter_cons_of_pos (by rw [h']; rfl), List.filter_nil]
theorem wo_len (ids : List Int) (l : List Pt) : (wo ids l).length ≤ l.length := List.length_filter_le _ _
theorem pl_ev (A B : List AV) (f : Bool) (p : Pt) (r : Bx) : stA Try.prog 34 (A :: B :: pz :: r) (.bp 2 0) (.agg (pt f p)) = some (.v undef, A :: B :: pt f p :: r) ∧ loadA Try.prog 34 (A :: B :: pt f p :: r) (.bp 2 0) = some (.agg (pt f p)) ∧ loadA Try.prog 3 (A :: B :: pt f p :: r) (.bp 2 0) = some (.v (.int .i64 p.id)) := ⟨by kernel_rfl, by kernel_rfl, by kernel_rfl⟩
theorem Without_ev {n : Nat} (h : Bool) (L : List Pt) (hL : L.length ≤ 400) (ids : List Int) (g : Bool) (hi : ids.length + 500 ≤ n) (hi2 : ids.length < 2 ^ 48) :
    cf (evFn cx0 ext0 n) 21 [psg h L, isl g ids] = some (psl false (wo ids L)) := by
  obtain ⟨m, rfl⟩ : ∃ m, n = m + 1 := ⟨n - 1, by omega⟩
  have ln := len_g h L
  have fz := fun bx => frz_isl bx g ids
  unfold cf
  rw [E_roll_Without]
  refine ends_cf (P := Try.prog) ?_
  unfold F_roll_Without
  have stq := (ln)
  repeat first
    | ((with_reducible apply ends_bind); case h => first | (simp only [stp, stq]; first | done | rfl) | rfl)
    | ((with_reducible apply ends_t); case h => first | rfl | (simp only [stp, stq]; done))
    | ((with_reducible apply ends_f); case h => first | rfl | (simp only [stp, stq]; done))
  refine ends_loop (fun d s => ∃ (j N e : Nat) (y4 : AV) (d0 d1 : List AV), s = ⟨[(10, .v (.int .i64 j)), (9, .v (.int .i64 L.length)), (8, psg h L), (5, .bsl 1 0 N e), (4, y4), (0, psg h L), (1, isl g ids)], [d0, d1]⟩ ∧ d1 = flatP false (wo ids (L.take j)) ∧ N = (wo ids (L.take j)).length ∧ (e = 9 ∨ (e = 0 ∧ N = 0)) ∧ j + d = L.length) L.length (by omega) ⟨0, 0, 0, _, _, _, rfl, rfl, rfl, .inr ⟨rfl, rfl⟩, by omega⟩ ?_
  rintro d s ⟨j, N, e, y4, d0, d1, rfl, rfl, hN, he, hd⟩
  refine L_roll_Without_0_lit ?_
  unfold B_roll_Without_0
  by_cases hx : j < L.length
  · have g0 : decide ((j : Int) < (L.length : Int)) = true := decide_eq_true (by omega)
    have i0 := idx_g h L j hx
    have q0 := fun bx => ld_g bx h L[j] (flatP false (L.drop (j + 1)))
    have e3 : IntKind.i64.wrap ((j : Int) + 1) = ((j + 1 : Nat) : Int) := by rw [wrap64]; omega
    have pl := fun A B r => pl_ev A B false L[j] r
    have c1 := contains_ev (n := m) g ids L[j].id (by omega) hi2
    have hs := wo_snoc ids (L.take j) L[j]
    rw [← List.take_succ_eq_append_getElem hx] at hs
    have hlj := wo_len ids (L.take j)
    rw [List.length_take] at hlj
    by_cases z : ids.contains L[j].id = true
    · rw [if_pos z] at hs
      rw [z] at c1
      have stq := (And.intro (g0) (And.intro (i0) (And.intro (q0) (And.intro (al_pz) (And.intro (pl) (And.intro (fa_pc) (And.intro (fz) (And.intro (c1) (And.intro (n_tf) (e3))))))))))
      repeat first
        | ((with_reducible apply ends_bind); case h => first | (simp only [stp, stq]; first | done | rfl) | rfl)
        | ((with_reducible apply ends_t); case h => first | rfl | (simp only [stp, stq]; done))
        | ((with_reducible apply ends_f); case h => first | rfl | (simp only [stp, stq]; done))
      exact ends_some (.inl ⟨rfl, d - 1, by omega, j + 1, N, e, _, _, _, by first | rfl | (rw [← e3]; rfl), by rw [hs]; exact flatP_keep _ _ _, by rw [hs]; exact hN, he, by omega⟩)
    · rw [if_neg z] at hs
      have z : ids.contains L[j].id = false := by simpa using z
      rw [z] at c1
      have b1 := bs_p1
      have ap := app_pg 0 [d0, flatP false (wo ids (L.take j)), pt false L[j], pt false L[j]] 1 3 (wo ids (L.take j)) L[j] e rfl rfl (by omega) (hN ▸ he) (by omega)
      rw [← hN, ← hs] at ap
      simp only [List.map_cons, List.map_nil, flatP_keep, pt_keep, List.set_cons_succ, List.set_cons_zero] at ap
      have stq := (And.intro (g0) (And.intro (i0) (And.intro (q0) (And.intro (al_pz) (And.intro (pl) (And.intro (fa_pc) (And.intro (fz) (And.intro (c1) (And.intro (n_ft) (And.intro (b1) (And.intro (ap) (e3))))))))))))
      repeat first
        | ((with_reducible apply ends_bind); case h => first | (simp only [stp, stq]; first | done | rfl) | rfl)
        | ((with_reducible apply ends_t); case h => first | rfl | (simp only [stp, stq]; done))
        | ((with_reducible apply ends_f); case h => first | rfl | (simp only [stp, stq]; done))
      refine ends_some (.inl ⟨rfl, d - 1, by omega, j + 1, N + 1, 9, _, _, _, by first | rfl | (rw [← e3]; rfl), flatP_keep _ _ _, by rw [hs, List.length_append, ← hN]; rfl, .inl rfl, by omega⟩)
  · have g0 : decide ((j : Int) < (L.length : Int)) = false := decide_eq_false (by omega)
    rw [List.take_of_length_le (by omega)] at hN ⊢
    have stq := (g0)
    repeat first
      | ((with_reducible apply ends_bind); case h => first | (simp only [stp, stq]; first | done | rfl) | rfl)
      | ((with_reducible apply ends_t); case h => first | rfl | (simp only [stp, stq]; done))
      | ((with_reducible apply ends_f); case h => first | rfl | (simp only [stp, stq]; done))
    refine ends_some (.inr (.inl ⟨0, rfl, X_roll_Without_0_0_lit ?_⟩))
    refine ends_some ⟨.inl rfl, _, rfl, ?_⟩
    show AV.sl N ((((flatP false (wo ids L)).drop 0).take (N * e)).map (frz _ false 5)) false = _
    have hq : (flatP false (wo ids L)).take (N * e) = flatP false (wo ids L) := by
      rcases he with rfl | ⟨rfl, h0⟩
      · exact List.take_of_length_le (by rw [flatP_len, hN]; omega)
      · rw [List.length_eq_zero_iff.1 (show (wo ids L).length = 0 by omega)]
        rfl
    rw [List.drop_zero, hq, flatP_frz0, hN]
theorem fa_z (f : Bool) (p : Pt) (r : List AV) : fieldAddrA Try.prog 34 (.ip (pt f p ++ r) f) 0 = some (.ip (pt f p ++ r) f) := by kernel_rfl
theorem ld_z (bx : Bx) (f : Bool) (p : Pt) (r : List AV) : loadA Try.prog 3 bx (.ip (pt f p ++ r) f) = some (.v (.int .i64 p.id)) := by kernel_rfl
theorem rWithout_ev {n : Nat} (L : List Pt) (hL : L.length ≤ 400) (ids : List Int) (g : Bool) (hi : ids.length + 500 ≤ n) (hi2 : ids.length < 2 ^ 48) :
    cf (evFn cx0 ext0 n) 22 [psl false L, isl g ids] = some (psl false (wo ids L)) := by
  obtain ⟨m, rfl⟩ : ∃ m, n = m + 1 := ⟨n - 1, by omega⟩
  have ln := len_p false L
  have fz := fun bx => frz_isl bx g ids
  have b0 := bs_p0
  unfold cf
  rw [E_r15_Without]
  refine ends_cf (P := Try.prog) ?_
  unfold F_r15_Without
  have stq := (b0)
  repeat first
    | ((with_reducible apply ends_bind); case h => first | (simp only [stp, stq]; first | done | rfl) | rfl)
    | ((with_reducible apply ends_t); case h => first | rfl | (simp only [stp, stq]; done))
    | ((with_reducible apply ends_f); case h => first | rfl | (simp only [stp, stq]; done))
  refine ends_loop (fun d s => ∃ (j N : Nat) (y4 : AV) (d0 d1 : List AV), s = ⟨[(6, .v (.int .i64 j)), (5, .bsl 1 0 N 9), (4, y4), (0, psl false L), (1, isl g ids)], [d0, d1]⟩ ∧ d1 = flatP false (wo ids (L.take j)) ∧ N = (wo ids (L.take j)).length ∧ j + d = L.length) L.length (by omega) ⟨0, 0, _, _, _, rfl, rfl, rfl, by omega⟩ ?_
  rintro d s ⟨j, N, y4, d0, d1, rfl, rfl, hN, hd⟩
  refine L_r15_Without_0_lit ?_
  unfold B_r15_Without_0
  by_cases hx : j < L.length
  · have g0 : decide ((j : Int) < (L.length : Int)) = true := decide_eq_true (by omega)
    have i0 := idx_p false L j hx
    have q0 := fun bx => ld_ipp bx false L[j] (flatP false (L.drop (j + 1)))
    have f0 := fa_z false L[j] (flatP false (L.drop (j + 1)))
    have l0 := fun bx => ld_z bx false L[j] (flatP false (L.drop (j + 1)))
    have e3 : IntKind.i64.wrap ((j : Int) + 1) = ((j + 1 : Nat) : Int) := by rw [wrap64]; omega
    have c1 := has_ev (n := m) g ids L[j].id (by omega) hi2
    have hs := wo_snoc ids (L.take j) L[j]
    rw [← List.take_succ_eq_append_getElem hx] at hs
    have hlj := wo_len ids (L.take j)
    rw [List.length_take] at hlj
    by_cases z : ids.contains L[j].id = true
    · rw [if_pos z] at hs
      rw [z] at c1
      have stq := (And.intro (ln) (And.intro (g0) (And.intro (i0) (And.intro (f0) (And.intro (l0) (And.intro (fz) (And.intro (c1) (And.intro (n_tf) (e3)))))))))
      repeat first
        | ((with_reducible apply ends_bind); case h => first | (simp only [stp, stq]; first | done | rfl) | rfl)
        | ((with_reducible apply ends_t); case h => first | rfl | (simp only [stp, stq]; done))
        | ((with_reducible apply ends_f); case h => first | rfl | (simp only [stp, stq]; done))
      exact ends_some (.inl ⟨rfl, d - 1, by omega, j + 1, N, _, _, _, by first | rfl | (rw [← e3]; rfl), by rw [hs]; exact flatP_keep _ _ _, by rw [hs]; exact hN, by omega⟩)
    · rw [if_neg z] at hs
      have z : ids.contains L[j].id = false := by simpa using z
      rw [z] at c1
      have b1 := bs_p1
      have ap := app_pg 0 [d0, flatP false (wo ids (L.take j)), pt false L[j]] 1 2 (wo ids (L.take j)) L[j] 9 rfl rfl (by omega) (.inl rfl) (by omega)
      rw [← hN, ← hs] at ap
      simp only [List.map_cons, List.map_nil, flatP_keep, pt_keep, List.set_cons_succ, List.set_cons_zero] at ap
      have stq := (And.intro (ln) (And.intro (g0) (And.intro (i0) (And.intro (q0) (And.intro (f0) (And.intro (l0) (And.intro (fz) (And.intro (c1) (And.intro (n_ft) (And.intro (b1) (And.intro (ap) (e3))))))))))))
      repeat first
        | ((with_reducible apply ends_bind); case h => first | (simp only [stp, stq]; first | done | rfl) | rfl)
        | ((with_reducible apply ends_t); case h => first | rfl | (simp only [stp, stq]; done))
        | ((with_reducible apply ends_f); case h => first | rfl | (simp only [stp, stq]; done))
      refine ends_some (.inl ⟨rfl, d - 1, by omega, j + 1, N + 1, _, _, _, by first | rfl | (rw [← e3]; rfl), flatP_keep _ _ _, by rw [hs, List.length_append, ← hN]; rfl, by omega⟩)
  · have g0 : decide ((j : Int) < (L.length : Int)) = false := decide_eq_false (by omega)
    rw [List.take_of_length_le (by omega)] at hN ⊢
    have stq := (And.intro (ln) (g0))
    repeat first
      | ((with_reducible apply ends_bind); case h => first | (simp only [stp, stq]; first | done | rfl) | rfl)
      | ((with_reducible apply ends_t); case h => first | rfl | (simp only [stp, stq]; done))
      | ((with_reducible apply ends_f); case h => first | rfl | (simp only [stp, stq]; done))
    refine ends_some (.inr (.inl ⟨0, rfl, X_r15_Without_0_0_lit ?_⟩))
    refine ends_some ⟨.inl rfl, _, rfl, ?_⟩
    show AV.sl N ((((flatP false (wo ids L)).drop 0).take (N * 9)).map (frz _ false 5)) false = _
    rw [List.drop_zero, List.take_of_length_le (by rw [flatP_len, hN]; omega), flatP_frz0, hN]
end Go.Sy
