/-
  Layer 03: the law PowerPlays as the reader reads it.
-/
import Derived.Test.YtjbncdpelkpofaaLwPow
import Derived.Test.YtjbncdpelkpofaaPfBase
namespace Go.Sy
open Go.Proofs

def il (l : List Int) : List AV := l.map fun x => .v (.int .i64 x)
/-- numbers of an int's size -/
def i64 (x : Int) : Prop := -9223372036854775808 ≤ x ∧ x < 2 ^ 63
theorem fit_acts {a : AV} (h : Fit (.sl [.int .i64, .int .i64]) a) : ∃ (n : Nat) (xs : List Int), xs.length = 2 * n ∧ (∀ x ∈ xs, i64 x) ∧ a = .sl n (il xs) true := by
  cases h with
  | sl row n l hn hl h =>
    have hall : ∀ m (l : List AV), l.length = m → (∀ x ∈ l, ∃ v : Int, i64 v ∧ x = .v (.int .i64 v)) → ∃ xs : List Int, xs.length = m ∧ (∀ x ∈ xs, i64 x) ∧ l = il xs := by
      intro m l
      induction l generalizing m with
      | nil => intro hm _; exact ⟨[], by simpa using hm, by simp, rfl⟩
      | cons x r ih =>
        intro hm hx
        obtain ⟨v, hv, rfl⟩ := hx x (by simp)
        obtain ⟨xs, h1, h2, h3⟩ := ih r.length rfl (fun y hy => hx y (by simp [hy]))
        refine ⟨v :: xs, by simp [h1] at hm ⊢; omega, ?_, by rw [h3]; rfl⟩
        intro y hy
        rcases List.mem_cons.1 hy with rfl | hy
        · exact hv
        · exact h2 y hy
    obtain ⟨xs, h1, h2, h3⟩ := hall (2 * n) l (by rw [hl]; simp; omega) (by
      intro x hx
      obtain ⟨i, hi⟩ := List.getElem?_of_mem hx
      have hr : ([Sh.int .i64, .int .i64] : List Sh)[i % 2]? = some (.int .i64) := by
        have : i % 2 = 0 ∨ i % 2 = 1 := by omega
        rcases this with e | e <;> rw [e] <;> rfl
      obtain ⟨v, rfl, h1, h2⟩ := fit_i64 (h i x _ hi hr)
      exact ⟨v, ⟨h1, h2⟩, rfl⟩)
    exact ⟨n, xs, h1, h2, by rw [h3]⟩
theorem acts_at (n : Nat) (xs : List Int) (hx : xs.length = 2 * n) (hb : ∀ x ∈ xs, i64 x) (i : Nat) (hi : i < n) : ∃ (a b : Int) (r : List AV), i64 a ∧ i64 b ∧ indexAddrA Try.prog 30 (.sl n (il xs) true) (.v (.int .i64 i)) = some (.ip (.v (.int .i64 a) :: .v (.int .i64 b) :: r) true) := by
  refine ⟨xs[2 * i]'(by omega), xs[2 * i + 1]'(by omega), il (xs.drop (2 * i + 2)), hb _ (List.getElem_mem _), hb _ (List.getElem_mem _), ?_⟩
  have h : indexAddrA Try.prog 30 (.sl n (il xs) true) (.v (.int .i64 i)) = (idxI n 0 2 (.v (.int .i64 i))).bind fun o => if n * 2 ≤ (il xs).length then some (.ip ((il xs).drop o) true) else none := by kernel_rfl
  have e : idxI n 0 2 (.v (.int .i64 i)) = some (2 * i) := by
    show (if 0 ≤ (i : Int) ∧ (i : Int) < n then some (0 + (i : Int).toNat * 2) else none) = _
    rw [if_pos ⟨by omega, by omega⟩, Int.toNat_natCast]
    congr 1
    omega
  rw [h, e, Option.bind_some, if_pos (by simp [il, hx]; omega)]
  have hd : xs.drop (2 * i) = xs[2 * i]'(by omega) :: xs[2 * i + 1]'(by omega) :: xs.drop (2 * i + 2) := by
    rw [List.drop_eq_getElem_cons (by omega), List.drop_eq_getElem_cons (by omega)]
  unfold il
  rw [← List.map_drop, hd]
  rfl
theorem fa_act (a b : AV) (r : List AV) : fieldAddrA Try.prog 35 (.ip (a :: b :: r) true) 0 = some (.ip (a :: b :: r) true) ∧ fieldAddrA Try.prog 35 (.ip (a :: b :: r) true) 1 = some (.ip (b :: r) true) := ⟨by kernel_rfl, by kernel_rfl⟩
theorem ld_ip1 (bx : Bx) (a : Int) (r : List AV) : loadA Try.prog 3 bx (.ip (.v (.int .i64 a) :: r) true) = some (.v (.int .i64 a)) := by kernel_rfl
theorem len_acts (n : Nat) (l : List AV) : lenA Try.prog 30 (.sl n l true) = some (.v (.int .i64 (n : Int))) := by kernel_rfl
theorem fld_y (A : List AV) (l u : Int) (g : Bool) : fieldAddrA Try.prog 37 (.bp 1 0) 2 = some (.bp 1 2) ∧ fieldAddrA Try.prog 37 (.bp 1 0) 1 = some (.bp 1 1) ∧ loadA Try.prog 4 [A, sup l u g] (.bp 1 2) = some (.v (.bool g)) ∧ loadA Try.prog 3 [A, sup l u g] (.bp 1 1) = some (.v (.int .i64 u)) := ⟨by kernel_rfl, by kernel_rfl, by kernel_rfl, by kernel_rfl⟩

section
variable (m : Nat) (l u l' u' : Int) (g g' : Bool) (n : Int)
theorem limit2 (hn : 0 ≤ n) : evFn cx0 ext0 (m + 1) 8 [.bp 0 0, .v (.int .i64 n)] [sup l u g, sup l' u' g'] = some (.v (.int .i64 0), [sup n u g, sup l' u' g']) := by
  have g0 : decide (n < 0) = false := decide_eq_false (by omega)
  rw [E_power_Supply_Limit]
  refine ends_fin (P := Try.prog) ?_
  unfold F_power_Supply_Limit
  have stq := (g0)
  repeat first
    | ((with_reducible apply ends_bind); case h => first | (simp only [stp, stq]; first | done | rfl) | rfl)
    | ((with_reducible apply ends_t); case h => first | rfl | (simp only [stp, stq]; done))
    | ((with_reducible apply ends_f); case h => first | rfl | (simp only [stp, stq]; done))
  exact ends_some ⟨.inl rfl, _, rfl, rfl⟩
theorem limit2n (hn : n < 0) : evFn cx0 ext0 (m + 1) 8 [.bp 0 0, .v (.int .i64 n)] [sup l u g, sup l' u' g'] = some (.v (.int .i64 2), [sup l u g, sup l' u' g']) := by
  have g0 : decide (n < 0) = true := decide_eq_true hn
  rw [E_power_Supply_Limit]
  refine ends_fin (P := Try.prog) ?_
  unfold F_power_Supply_Limit
  have stq := (g0)
  repeat first
    | ((with_reducible apply ends_bind); case h => first | (simp only [stp, stq]; first | done | rfl) | rfl)
    | ((with_reducible apply ends_t); case h => first | rfl | (simp only [stp, stq]; done))
    | ((with_reducible apply ends_f); case h => first | rfl | (simp only [stp, stq]; done))
  exact ends_some ⟨.inl rfl, _, rfl, rfl⟩
theorem rlimit2 (hn : 0 ≤ n) : evFn cx0 ext0 (m + 1) 14 [.bp 1 0, .v (.int .i64 n)] [sup l u g, sup l' u' g'] = some (.v (.int .i64 0), [sup l u g, sup n u' g']) := by
  have g0 : decide (n < 0) = false := decide_eq_false (by omega)
  rw [E_r03_Supply_Limit]
  refine ends_fin (P := Try.prog) ?_
  unfold F_r03_Supply_Limit
  have stq := (g0)
  repeat first
    | ((with_reducible apply ends_bind); case h => first | (simp only [stp, stq]; first | done | rfl) | rfl)
    | ((with_reducible apply ends_t); case h => first | rfl | (simp only [stp, stq]; done))
    | ((with_reducible apply ends_f); case h => first | rfl | (simp only [stp, stq]; done))
  exact ends_some ⟨.inl rfl, _, rfl, rfl⟩
theorem rlimit2n (hn : n < 0) : evFn cx0 ext0 (m + 1) 14 [.bp 1 0, .v (.int .i64 n)] [sup l u g, sup l' u' g'] = some (.v (.int .i64 2), [sup l u g, sup l' u' g']) := by
  have g0 : decide (n < 0) = true := decide_eq_true hn
  rw [E_r03_Supply_Limit]
  refine ends_fin (P := Try.prog) ?_
  unfold F_r03_Supply_Limit
  have stq := (g0)
  repeat first
    | ((with_reducible apply ends_bind); case h => first | (simp only [stp, stq]; first | done | rfl) | rfl)
    | ((with_reducible apply ends_t); case h => first | rfl | (simp only [stp, stq]; done))
    | ((with_reducible apply ends_f); case h => first | rfl | (simp only [stp, stq]; done))
  exact ends_some ⟨.inl rfl, _, rfl, rfl⟩
theorem used2 : evFn cx0 ext0 (m + 1) 10 [.bp 0 0] [sup l u g, sup l' u' g'] = some (.v (.int .i64 u), [sup l u g, sup l' u' g']) := by kernel_rfl
theorem gone2 : evFn cx0 ext0 (m + 1) 11 [.bp 0 0] [sup l u g, sup l' u' g'] = some (.v (.bool g), [sup l u g, sup l' u' g']) := by kernel_rfl
theorem rest2 : evFn cx0 ext0 (m + 1) 15 [.bp 0 0] [sup l u g, sup l' u' g'] = some (.tup [], [sup (-1) u false, sup l' u' g']) := by kernel_rfl
theorem rrest2 : evFn cx0 ext0 (m + 1) 16 [.bp 1 0] [sup l u g, sup l' u' g'] = some (.tup [], [sup l u g, sup (-1) u' false]) := by kernel_rfl
theorem new2 : evFn cx0 ext0 (m + 1) 12 [] [sup l u g] = some (.bp 1 0, [sup l u g, sup (-1) 0 false]) := by kernel_rfl
/-- what a use answers, and leaves -/
def useE : Int := if g = true ∨ l = 0 then 20 else 0
def useS : List AV := if g = true ∨ l = 0 then sup l u true else if 0 < l then sup (IntKind.i64.wrap (l - 1)) (IntKind.i64.wrap (u + 1)) false else sup l (IntKind.i64.wrap (u + 1)) false
theorem use2 : ∃ b1 b2, evFn cx0 ext0 (m + 1) 9 [.bp 0 0] [sup l u g, sup l' u' g'] = some (.v (.int .i64 (useE l g)), [useS l u g, sup l' u' g', b1, b2]) := by
  unfold useE useS
  cases g
  · have k := use_here2 l u l' u' g'
    by_cases h0 : l = 0
    · have c1 : (l == 0) = true := by simp [h0]
      rw [c1] at k
      rw [if_pos (.inr h0), if_pos (.inr h0)]
      exact ⟨_, _, use_fn m k⟩
    · have c1 : (l == 0) = false := by simp [h0]
      rw [if_neg (by simp [h0]), if_neg (by simp [h0])]
      by_cases h1 : 0 < l
      · have c2 : decide (l > 0) = true := decide_eq_true h1
        rw [c1, c2] at k
        rw [if_pos h1]
        exact ⟨_, _, use_fn m k⟩
      · have c2 : decide (l > 0) = false := decide_eq_false h1
        rw [c1, c2] at k
        rw [if_neg h1]
        exact ⟨_, _, use_fn m k⟩
  · have k := use_gone2 l u l' u' g'
    rw [if_pos (.inl rfl), if_pos (.inl rfl)]
    exact ⟨_, _, use_fn m k⟩
theorem fy : fieldAddrA Try.prog 37 (.bp 1 0) 0 = some (.bp 1 0) ∧ fieldAddrA Try.prog 37 (.bp 1 0) 1 = some (.bp 1 1) ∧ fieldAddrA Try.prog 37 (.bp 1 0) 2 = some (.bp 1 2) := ⟨by kernel_rfl, by kernel_rfl, by kernel_rfl⟩
theorem ly (A : List AV) : loadA Try.prog 3 [A, sup l u g] (.bp 1 0) = some (.v (.int .i64 l)) ∧ loadA Try.prog 3 [A, sup l u g] (.bp 1 1) = some (.v (.int .i64 u)) ∧ loadA Try.prog 4 [A, sup l u g] (.bp 1 2) = some (.v (.bool g)) := ⟨by kernel_rfl, by kernel_rfl, by kernel_rfl⟩
theorem sy (A : List AV) (n : Int) (b : Bool) : stA Try.prog 3 [A, sup l u g] (.bp 1 0) (.v (.int .i64 n)) = some (.v undef, [A, sup n u g]) ∧ stA Try.prog 3 [A, sup l u g] (.bp 1 1) (.v (.int .i64 n)) = some (.v undef, [A, sup l n g]) ∧ stA Try.prog 4 [A, sup l u g] (.bp 1 2) (.v (.bool b)) = some (.v undef, [A, sup l u b]) := ⟨by kernel_rfl, by kernel_rfl, by kernel_rfl⟩
theorem ruse2 (A : List AV) : evFn cx0 ext0 (m + 1) 17 [.bp 1 0] [A, sup l u g] = some (.v (.int .i64 (useE l g)), [A, useS l u g]) := by
  have y1 := fy
  have y2 := fun l u g => ly l u g A
  have y3 := fun l u g n b => sy l u g A n b
  rw [E_r03_Supply_Use]
  refine ends_fin (P := Try.prog) ?_
  unfold F_r03_Supply_Use
  unfold useE useS
  cases g
  · by_cases h0 : l = 0
    · have c1 : (l == 0) = true := by simp [h0]
      rw [if_pos (.inr h0), if_pos (.inr h0)]
      have stq := (And.intro (y1) (And.intro (y2) (And.intro (y3) (c1))))
      repeat first
        | ((with_reducible apply ends_bind); case h => first | (simp only [stp, stq]; first | done | rfl) | rfl)
        | ((with_reducible apply ends_t); case h => first | rfl | (simp only [stp, stq]; done))
        | ((with_reducible apply ends_f); case h => first | rfl | (simp only [stp, stq]; done))
      exact ends_some ⟨.inl rfl, _, rfl, rfl⟩
    · have c1 : (l == 0) = false := by simp [h0]
      rw [if_neg (by simp [h0]), if_neg (by simp [h0])]
      by_cases h1 : 0 < l
      · have c2 : decide (0 < l) = true := decide_eq_true h1
        rw [if_pos h1]
        have stq := (And.intro (y1) (And.intro (y2) (And.intro (y3) (And.intro (c1) (c2)))))
        repeat first
          | ((with_reducible apply ends_bind); case h => first | (simp only [stp, stq]; first | done | rfl) | rfl)
          | ((with_reducible apply ends_t); case h => first | rfl | (simp only [stp, stq]; done))
          | ((with_reducible apply ends_f); case h => first | rfl | (simp only [stp, stq]; done))
        exact ends_some ⟨.inl rfl, _, rfl, rfl⟩
      · have c2 : decide (0 < l) = false := decide_eq_false h1
        rw [if_neg h1]
        have stq := (And.intro (y1) (And.intro (y2) (And.intro (y3) (And.intro (c1) (c2)))))
        repeat first
          | ((with_reducible apply ends_bind); case h => first | (simp only [stp, stq]; first | done | rfl) | rfl)
          | ((with_reducible apply ends_t); case h => first | rfl | (simp only [stp, stq]; done))
          | ((with_reducible apply ends_f); case h => first | rfl | (simp only [stp, stq]; done))
        exact ends_some ⟨.inl rfl, _, rfl, rfl⟩
  · rw [if_pos (.inl rfl), if_pos (.inl rfl)]
    have stq := (And.intro (y1) (And.intro (y2) (y3)))
    repeat first
      | ((with_reducible apply ends_bind); case h => first | (simp only [stp, stq]; first | done | rfl) | rfl)
      | ((with_reducible apply ends_t); case h => first | rfl | (simp only [stp, stq]; done))
      | ((with_reducible apply ends_f); case h => first | rfl | (simp only [stp, stq]; done))
    exact ends_some ⟨.inl rfl, _, rfl, rfl⟩
end
theorem callA_objR {E : FnA} {md : FuncId → Md} {f : FuncId} (h : md f = .objR) {bx : Bx} {args : List AV} {r : AV} (hr : E f args bx = some (r, bx)) (he : eqBx ((bx.take bx.length).map fun l => l.map (AV.keep (· < bx.length))) bx = true) :
    callA E md bx f args = some (r.keep (· < bx.length), bx) := by
  unfold callA
  simp only [h, hr, Option.bind_some]
  rw [if_pos ⟨Nat.le_refl _, he⟩]
theorem eq_sup2 (l u l' u' : Int) (g g' : Bool) : eqBx ((([sup l u g, sup l' u' g'] : Bx).take 2).map fun l => l.map (AV.keep (· < 2))) [sup l u g, sup l' u' g'] = true := by
  simp [sup, eqBx, eqCs, eqC, eqV, AV.keep]
theorem neq_b (p q : Bool) : binA Try.prog .neq 4 (.v (.bool p)) (.v (.bool q)) = some (.v (.bool (p != q))) := by
  cases p <;> cases q <;> kernel_rfl
theorem keep_use (p : Nat → Bool) (l u : Int) (g : Bool) : (useS l u g).map (AV.keep p) = useS l u g := by
  unfold useS
  split
  · rfl
  · split <;> rfl
theorem use_form (l u : Int) (g : Bool) : ∃ l' u' g', useS l u g = sup l' u' g' := by
  unfold useS
  split
  · exact ⟨_, _, _, rfl⟩
  · split <;> exact ⟨_, _, _, rfl⟩
theorem plays_ev (n : Nat) (xs : List Int) (hx : xs.length = 2 * n) (hb : ∀ x ∈ xs, i64 x) : cf (evFn cx0 ext0 1000) 4 [.sl n (il xs) true] = some (.v (.bool true)) := by
  have c1 : callA (evFn cx0 ext0 999) md_l03_PowerPlays [] 7 [] = _ := (callA_objK rfl [] []).trans (new_fn 998)
  have c2 : callA (evFn cx0 ext0 999) md_l03_PowerPlays [sup (-1) 0 false] 12 [] = _ := (callA_objK rfl _ []).trans (new2 998 (-1) 0 false)
  unfold cf
  rw [E_l03_PowerPlays]
  refine ends_cf (P := Try.prog) ?_
  unfold F_l03_PowerPlays
  have stq := (And.intro (c1) (c2))
  repeat first
    | ((with_reducible apply ends_bind); case h => first | (simp only [stp, stq]; first | done | rfl) | rfl)
    | ((with_reducible apply ends_t); case h => first | rfl | (simp only [stp, stq]; done))
    | ((with_reducible apply ends_f); case h => first | rfl | (simp only [stp, stq]; done))
  refine ends_loop (fun k s => ∃ (i : Nat) (l u : Int) (g : Bool) (y2 : AV) (b0 b1 : List AV), s = ⟨[(5, .v (.int .i64 i)), (4, .bp 1 0), (3, .bp 0 0), (2, y2), (0, .sl n (il xs) true)], [b0, b1]⟩ ∧ b0 = sup l u g ∧ b1 = sup l u g ∧ i + k = min n 100) (min n 100) (by omega) ⟨0, _, _, _, _, _, _, rfl, rfl, rfl, by omega⟩ ?_
  rintro k s ⟨i, l, u, g, y2, b0, b1, rfl, rfl, rfl, hik⟩
  refine L_l03_PowerPlays_0_lit ?_
  unfold B_l03_PowerPlays_0
  have ln := len_acts n (il xs)
  rcases k with _ | k
  · have hw : callA (evFn cx0 ext0 999) md_l03_PowerPlays [sup l u g, sup l u g] 6 [] = some (.v (.bool true), [sup l u g, sup l u g]) := by
      rw [callA_frozen rfl]
      simp only [List.map_nil, works_at 999 (by omega), Option.map_some]
    by_cases h1 : i < n
    · have g1 : decide ((i : Int) < (n : Int)) = true := decide_eq_true (by omega)
      have g2 : decide ((i : Int) < 100) = false := decide_eq_false (by omega)
      have stq := (And.intro (ln) (And.intro (g1) (g2)))
      repeat first
        | ((with_reducible apply ends_bind); case h => first | (simp only [stp, stq]; first | done | rfl) | rfl)
        | ((with_reducible apply ends_t); case h => first | rfl | (simp only [stp, stq]; done))
        | ((with_reducible apply ends_f); case h => first | rfl | (simp only [stp, stq]; done))
      refine ends_some (.inr (.inl ⟨0, rfl, X_l03_PowerPlays_0_0_lit ?_⟩))
      unfold X_l03_PowerPlays_0_0
      have stq := (hw)
      repeat first
        | ((with_reducible apply ends_bind); case h => first | (simp only [stp, stq]; first | done | rfl) | rfl)
        | ((with_reducible apply ends_t); case h => first | rfl | (simp only [stp, stq]; done))
        | ((with_reducible apply ends_f); case h => first | rfl | (simp only [stp, stq]; done))
      exact ends_some ⟨.inl rfl, _, rfl, rfl⟩
    · have g1 : decide ((i : Int) < (n : Int)) = false := decide_eq_false (by omega)
      have stq := (And.intro (ln) (g1))
      repeat first
        | ((with_reducible apply ends_bind); case h => first | (simp only [stp, stq]; first | done | rfl) | rfl)
        | ((with_reducible apply ends_t); case h => first | rfl | (simp only [stp, stq]; done))
        | ((with_reducible apply ends_f); case h => first | rfl | (simp only [stp, stq]; done))
      refine ends_some (.inr (.inl ⟨0, rfl, X_l03_PowerPlays_0_0_lit ?_⟩))
      unfold X_l03_PowerPlays_0_0
      have stq := (hw)
      repeat first
        | ((with_reducible apply ends_bind); case h => first | (simp only [stp, stq]; first | done | rfl) | rfl)
        | ((with_reducible apply ends_t); case h => first | rfl | (simp only [stp, stq]; done))
        | ((with_reducible apply ends_f); case h => first | rfl | (simp only [stp, stq]; done))
      exact ends_some ⟨.inl rfl, _, rfl, rfl⟩
  · have g1 : decide ((i : Int) < (n : Int)) = true := decide_eq_true (by omega)
    have g2 : decide ((i : Int) < 100) = true := decide_eq_true (by omega)
    obtain ⟨a, b, r, ha, hb', ix⟩ := acts_at n xs hx hb i (by omega)
    have fa := fun a b => fa_act (.v (.int .i64 a)) (.v (.int .i64 b)) r
    have la := fun bx a r => ld_ip1 bx a r
    obtain ⟨kk, hkk, am⟩ := among_ev 998 a 7 (by omega) (by omega)
    have ca : callA (evFn cx0 ext0 999) md_l03_PowerPlays [sup l u g, sup l u g] 13 [.v (.int .i64 a), .v (.int .i64 7)] = some (.v (.int .i64 kk), [sup l u g, sup l u g]) := by
      rw [callA_frozen rfl]
      have am' : cf (evFn cx0 ext0 999) 13 ([AV.v (.int .i64 a), .v (.int .i64 7)].map (frz [sup l u g, sup l u g] true 6)) = some (.v (.int .i64 kk)) := am
      rw [am']
      rfl
    have e3 : IntKind.i64.wrap ((i : Int) + 1) = ((i + 1 : Nat) : Int) := by rw [wrap64]; omega
    have cG : ∀ l u g, callA (evFn cx0 ext0 999) md_l03_PowerPlays [sup l u g, sup l u g] 11 [.bp 0 0] = some (.v (.bool g), [sup l u g, sup l u g]) := fun l u g => callA_objR rfl (gone2 998 l u l u g g) (eq_sup2 _ _ _ _ _ _)
    have cU : ∀ l u g, callA (evFn cx0 ext0 999) md_l03_PowerPlays [sup l u g, sup l u g] 10 [.bp 0 0] = some (.v (.int .i64 u), [sup l u g, sup l u g]) := fun l u g => callA_objR rfl (used2 998 l u l u g g) (eq_sup2 _ _ _ _ _ _)
    have y1 := fy
    have y2 := fun l u g A => ly l u g A
    have nb := neq_b
    have zb : ∀ p : Bool, (p != p) = false := fun p => by cases p <;> rfl
    have zi : ∀ p : Int, (p != p) = false := fun p => by simp
    by_cases h5 : kk = 5
    · subst h5
      have k5 : (((5 : Nat) : Int) == 5) = true := rfl
      by_cases hneg : b < 0
      · have cL : callA (evFn cx0 ext0 999) md_l03_PowerPlays [sup l u g, sup l u g] 8 [.bp 0 0, .v (.int .i64 b)] = some (.v (.int .i64 2), [sup l u g, sup l u g]) := callA_objT rfl (limit2n 998 l u l u g g b hneg) (Nat.le_refl _)
        have cR : callA (evFn cx0 ext0 999) md_l03_PowerPlays [sup l u g, sup l u g] 14 [.bp 1 0, .v (.int .i64 b)] = some (.v (.int .i64 2), [sup l u g, sup l u g]) := callA_objT rfl (rlimit2n 998 l u l u g g b hneg) (Nat.le_refl _)
        have stq := (And.intro (ln) (And.intro (g1) (And.intro (g2) (And.intro (ix) (And.intro (fa) (And.intro (la) (And.intro (ca) (And.intro (k5) (And.intro (cL) (And.intro (cR) (And.intro (cG) (And.intro (cU) (And.intro (y1) (And.intro (y2) (And.intro (nb) (And.intro (zb) (And.intro (zi) (e3))))))))))))))))))
        repeat first
          | ((with_reducible apply ends_bind); case h => first | (simp only [stp, stq]; first | done | rfl) | rfl)
          | ((with_reducible apply ends_t); case h => first | rfl | (simp only [stp, stq]; done))
          | ((with_reducible apply ends_f); case h => first | rfl | (simp only [stp, stq]; done))
        exact ends_some (.inl ⟨rfl, k, by omega, i + 1, l, u, g, _, _, _, by first | rfl | (rw [← e3]; rfl), rfl, rfl, by omega⟩)
      · have cL : callA (evFn cx0 ext0 999) md_l03_PowerPlays [sup l u g, sup l u g] 8 [.bp 0 0, .v (.int .i64 b)] = some (.v (.int .i64 0), [sup b u g, sup l u g]) := callA_objT rfl (limit2 998 l u l u g g b (by omega)) (Nat.le_refl _)
        have cR : callA (evFn cx0 ext0 999) md_l03_PowerPlays [sup b u g, sup l u g] 14 [.bp 1 0, .v (.int .i64 b)] = some (.v (.int .i64 0), [sup b u g, sup b u g]) := callA_objT rfl (rlimit2 998 b u l u g g b (by omega)) (Nat.le_refl _)
        have stq := (And.intro (ln) (And.intro (g1) (And.intro (g2) (And.intro (ix) (And.intro (fa) (And.intro (la) (And.intro (ca) (And.intro (k5) (And.intro (cL) (And.intro (cR) (And.intro (cG) (And.intro (cU) (And.intro (y1) (And.intro (y2) (And.intro (nb) (And.intro (zb) (And.intro (zi) (e3))))))))))))))))))
        repeat first
          | ((with_reducible apply ends_bind); case h => first | (simp only [stp, stq]; first | done | rfl) | rfl)
          | ((with_reducible apply ends_t); case h => first | rfl | (simp only [stp, stq]; done))
          | ((with_reducible apply ends_f); case h => first | rfl | (simp only [stp, stq]; done))
        exact ends_some (.inl ⟨rfl, k, by omega, i + 1, b, u, g, _, _, _, by first | rfl | (rw [← e3]; rfl), rfl, rfl, by omega⟩)
    have k5 : ((kk : Int) == 5) = false := by simp; omega
    by_cases h6 : kk = 6
    · subst h6
      have k5' : (((6 : Nat) : Int) == 5) = false := rfl
      have k6 : (((6 : Nat) : Int) == 6) = true := rfl
      have cL : callA (evFn cx0 ext0 999) md_l03_PowerPlays [sup l u g, sup l u g] 15 [.bp 0 0] = some (.tup [], [sup (-1) u false, sup l u g]) := callA_objT rfl (rest2 998 l u l u g g) (Nat.le_refl _)
      have cR : callA (evFn cx0 ext0 999) md_l03_PowerPlays [sup (-1) u false, sup l u g] 16 [.bp 1 0] = some (.tup [], [sup (-1) u false, sup (-1) u false]) := callA_objT rfl (rrest2 998 (-1) u l u false g) (Nat.le_refl _)
      have stq := (And.intro (ln) (And.intro (g1) (And.intro (g2) (And.intro (ix) (And.intro (fa) (And.intro (la) (And.intro (ca) (And.intro (k5') (And.intro (k6) (And.intro (cL) (And.intro (cR) (And.intro (cG) (And.intro (cU) (And.intro (y1) (And.intro (y2) (And.intro (nb) (And.intro (zb) (And.intro (zi) (e3)))))))))))))))))))
      repeat first
        | ((with_reducible apply ends_bind); case h => first | (simp only [stp, stq]; first | done | rfl) | rfl)
        | ((with_reducible apply ends_t); case h => first | rfl | (simp only [stp, stq]; done))
        | ((with_reducible apply ends_f); case h => first | rfl | (simp only [stp, stq]; done))
      exact ends_some (.inl ⟨rfl, k, by omega, i + 1, -1, u, false, _, _, _, by first | rfl | (rw [← e3]; rfl), rfl, rfl, by omega⟩)
    have k6 : ((kk : Int) == 6) = false := by simp; omega
    obtain ⟨b1, b2, hu⟩ := use2 998 l u l u g g
    have cL : callA (evFn cx0 ext0 999) md_l03_PowerPlays [sup l u g, sup l u g] 9 [.bp 0 0] = some (.v (.int .i64 (useE l g)), [(useS l u g).map (AV.keep (· < 2)), sup l u g]) := callA_objT rfl hu (by simp)
    rw [keep_use] at cL
    have cR : callA (evFn cx0 ext0 999) md_l03_PowerPlays [useS l u g, sup l u g] 17 [.bp 1 0] = some (.v (.int .i64 (useE l g)), [(useS l u g).map (AV.keep (· < 2)), (useS l u g).map (AV.keep (· < 2))]) := callA_objT rfl (ruse2 998 l u g (useS l u g)) (Nat.le_refl _)
    rw [keep_use] at cR
    obtain ⟨l', u', g', hS⟩ := use_form l u g
    rw [hS] at cL cR
    have stq := (And.intro (ln) (And.intro (g1) (And.intro (g2) (And.intro (ix) (And.intro (fa) (And.intro (la) (And.intro (ca) (And.intro (k5) (And.intro (k6) (And.intro (cL) (And.intro (cR) (And.intro (cG) (And.intro (cU) (And.intro (y1) (And.intro (y2) (And.intro (nb) (And.intro (zb) (And.intro (zi) (e3)))))))))))))))))))
    repeat first
      | ((with_reducible apply ends_bind); case h => first | (simp only [stp, stq]; first | done | rfl) | rfl)
      | ((with_reducible apply ends_t); case h => first | rfl | (simp only [stp, stq]; done))
      | ((with_reducible apply ends_f); case h => first | rfl | (simp only [stp, stq]; done))
    exact ends_some (.inl ⟨rfl, k, by omega, i + 1, l', u', g', _, _, _, by first | rfl | (rw [← e3]; rfl), rfl, rfl, by omega⟩)
theorem fit_acts2 {a : AV} (h : Fit (.sl [.int .i64, .int .i64]) a) : ∃ p : Nat × List Int, (p.2.length = 2 * p.1 ∧ ∀ x ∈ p.2, i64 x) ∧ a = .sl p.1 (il p.2) true := by
  obtain ⟨n, xs, h1, h2, h3⟩ := fit_acts h
  exact ⟨(n, xs), ⟨h1, h2⟩, h3⟩
end Go.Sy
