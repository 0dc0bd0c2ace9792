/-
  Layer 03: supplies: the laws PowerEnds and PowerVoid as the reader reads them.
-/
import Derived.Test.YtjbncdpelkpofaaFn
namespace Go.Sy
open Go.Proofs

theorem n_tf : (!true) = false := rfl
theorem n_ft : (!false) = true := rfl
theorem keep_sup (p : Nat → Bool) (l u : Int) (g : Bool) : (sup l u g).map (AV.keep p) = sup l u g := rfl
theorem works_at (n : Nat) (h : 60 ≤ n) : cf (evFn cx0 ext0 n) 6 [] = some (.v (.bool true)) := by
  obtain ⟨m, rfl⟩ : ∃ m, n = m + 60 := ⟨n - 60, by omega⟩
  kernel_rfl

/-! ## calls that may change boxes -/
theorem callA_objT {E : FnA} {md : FuncId → Md} {f : FuncId} (h : md f = .objT) {bx bx' : Bx} {args : List AV} {r : AV} (hr : E f args bx = some (r, bx')) (hl : bx.length ≤ bx'.length) :
    callA E md bx f args = some (r.keep (· < bx.length), (bx'.take bx.length).map fun l => l.map (AV.keep (· < bx.length))) := by
  unfold callA
  simp only [h, hr, Option.bind_some, hl, if_true]
theorem callA_objK {E : FnA} {md : FuncId → Md} {f : FuncId} (h : md f = .objK) (bx : Bx) (args : List AV) : callA E md bx f args = E f args bx := by
  unfold callA
  simp only [h]
theorem use_fn {args : List AV} {bx : Bx} {y : AV × Bx} (m : Nat) (h : useK args bx = some y) : evFn cx0 ext0 (m + 1) 9 args bx = some y := by
  have h1 : ext0 9 args bx = some y := by
    show extC _ args bx = _
    unfold extC
    rw [if_pos rfl]
    exact evDK_eq h
  unfold evFn
  rw [h1]
theorem new_fn (m : Nat) : evFn cx0 ext0 (m + 1) 7 [] [] = some (.bp 0 0, [sup (-1) 0 false]) := by kernel_rfl
theorem limit_fn (m : Nat) (l u : Int) (g : Bool) (n : Int) (hn : 0 ≤ n) : evFn cx0 ext0 (m + 1) 8 [.bp 0 0, .v (.int .i64 n)] [sup l u g] = some (.v (.int .i64 0), [sup n u g]) := by
  have g0 : decide (n < 0) = false := decide_eq_false (by omega)
  rw [E_power_Supply_Limit]
  refine ends_fin (P := Try.prog) ?_
  unfold F_power_Supply_Limit
  have stq := (g0)
  repeat first
    | ((with_reducible apply ends_bind); case h => first | (simp only [stp, stq]; first | done | rfl) | rfl)
    | ((with_reducible apply ends_t); case h => first | rfl | (simp only [stp, stq]; done))
    | ((with_reducible apply ends_f); case h => first | rfl | (simp only [stp, stq]; done))
  exact ends_some ⟨.inl rfl, _, rfl, rfl⟩
theorem limit_nil (m : Nat) (n : Int) : evFn cx0 ext0 (m + 1) 8 [.v (.pointer none), .v (.int .i64 n)] [] = some (.v (.int .i64 2), []) := by kernel_rfl
theorem used_fn (m : Nat) (l u : Int) (g : Bool) : evFn cx0 ext0 (m + 1) 10 [.bp 0 0] [sup l u g] = some (.v (.int .i64 u), [sup l u g]) := by kernel_rfl
theorem used_nil (m : Nat) : evFn cx0 ext0 (m + 1) 10 [.v (.pointer none)] [] = some (.v (.int .i64 0), []) := by kernel_rfl
theorem gone_fn (m : Nat) (l u : Int) (g : Bool) : evFn cx0 ext0 (m + 1) 11 [.bp 0 0] [sup l u g] = some (.v (.bool g), [sup l u g]) := by kernel_rfl
theorem gone_nil (m : Nat) : evFn cx0 ext0 (m + 1) 11 [.v (.pointer none)] [] = some (.v (.bool false), []) := by kernel_rfl
theorem restore_nil (m : Nat) : (evFn cx0 ext0 (m + 1) 15 [.v (.pointer none)] []).map (fun r => r.2) = some [] := by kernel_rfl
theorem ieq (x : Int) : (x == x) = true := by simp
theorem cv_8 (bx : Bx) (x : UInt8) : convA Try.prog bx 5 3 (u8 x) = some (.v (.int .i64 (x.toNat : Int)), bx) := by
  have h : convA Try.prog bx 5 3 (u8 x) = some (.v (.int .i64 (IntKind.i64.wrap (x.toNat : Int))), bx) := by kernel_rfl
  have := UInt8.toNat_lt x
  have e : IntKind.i64.wrap (x.toNat : Int) = (x.toNat : Int) := by rw [wrap64]; omega
  rw [h, e]
/-- what a supply has when it was used so often -/
def supAt (n i : Nat) : List AV := sup ((n - i : Nat) : Int) ((min i n : Nat) : Int) (decide (n < i))
theorem use_at (m n i : Nat) (hn : n < 256) (hi : i < 1024) : ∃ b1 b2, evFn cx0 ext0 (m + 1) 9 [.bp 0 0] [supAt n i] = some (.v (.int .i64 (if i < n then 0 else 20)), [supAt n (i + 1), b1, b2]) := by
  unfold supAt
  rcases Nat.lt_trichotomy i n with h | h | h
  · have k := use_here ((n - i : Nat) : Int) ((min i n : Nat) : Int)
    have c1 : (((n - i : Nat) : Int) == 0) = false := by simp; omega
    have c2 : decide (((n - i : Nat) : Int) > 0) = true := decide_eq_true (by omega)
    have e1 : IntKind.i64.wrap (((n - i : Nat) : Int) - 1) = ((n - (i + 1) : Nat) : Int) := by rw [wrap64]; omega
    have e2 : IntKind.i64.wrap (((min i n : Nat) : Int) + 1) = ((min (i + 1) n : Nat) : Int) := by rw [wrap64]; omega
    rw [c1, c2, e1, e2] at k
    rw [if_pos h, show decide (n < i) = false from decide_eq_false (by omega), show decide (n < i + 1) = false from decide_eq_false (by omega)]
    exact ⟨_, _, use_fn m k⟩
  · have k := use_here ((n - i : Nat) : Int) ((min i n : Nat) : Int)
    have c1 : (((n - i : Nat) : Int) == 0) = true := by simp; omega
    rw [c1] at k
    rw [if_neg (by omega), show decide (n < i) = false from decide_eq_false (by omega), show decide (n < i + 1) = true from decide_eq_true (by omega), show n - (i + 1) = n - i by omega, show min (i + 1) n = min i n by omega]
    exact ⟨_, _, use_fn m k⟩
  · have k := use_gone ((n - i : Nat) : Int) ((min i n : Nat) : Int)
    rw [if_neg (by omega), show decide (n < i) = true from decide_eq_true (by omega), show decide (n < i + 1) = true from decide_eq_true (by omega), show n - (i + 1) = n - i by omega, show min (i + 1) n = min i n by omega]
    exact ⟨_, _, use_fn m k⟩
theorem ends_ev (x0 x1 : UInt8) : cf (evFn cx0 ext0 1000) 3 [u8 x0, u8 x1] = some (.v (.bool true)) := by
  have hx0 := UInt8.toNat_lt x0
  have hx1 := UInt8.toNat_lt x1
  have hw : callA (evFn cx0 ext0 999) md_l03_PowerEnds [] 6 [] = some (.v (.bool true), []) := by
    rw [callA_frozen rfl]
    simp only [List.map_nil, works_at 999 (by omega), Option.map_some]
  have c1 : callA (evFn cx0 ext0 999) md_l03_PowerEnds [] 7 [] = _ := (callA_objK rfl [] []).trans (new_fn 998)
  have c2 : callA (evFn cx0 ext0 999) md_l03_PowerEnds [sup (-1) 0 false] 8 [.bp 0 0, .v (.int .i64 (x0.toNat : Int))] = some (.v (.int .i64 0), [sup x0.toNat 0 false]) :=
    callA_objT rfl (limit_fn 998 (-1) 0 false x0.toNat (by omega)) (Nat.le_refl _)
  have cv := cv_8
  have z0 : ((0 : Int) != 0) = false := rfl
  unfold cf
  rw [E_l03_PowerEnds]
  refine ends_cf (P := Try.prog) ?_
  unfold F_l03_PowerEnds
  have stq := (And.intro (hw) (And.intro (n_tf) (And.intro (c1) (And.intro (cv) (And.intro (c2) (z0))))))
  repeat first
    | ((with_reducible apply ends_bind); case h => first | (simp only [stp, stq]; first | done | rfl) | rfl)
    | ((with_reducible apply ends_t); case h => first | rfl | (simp only [stp, stq]; done))
    | ((with_reducible apply ends_f); case h => first | rfl | (simp only [stp, stq]; done))
  refine ends_loop (fun k s => ∃ (i : Nat) (y4 y8 y14 : AV) (b0 : List AV), s = ⟨[(6, .v (.int .i64 i)), (14, y14), (5, .bp 0 0), (8, y8), (4, y4), (0, u8 x0), (1, u8 x1)], [b0]⟩ ∧ b0 = supAt x0.toNat i ∧ i + k = x0.toNat + x1.toNat) (x0.toNat + x1.toNat) (by omega) ⟨0, _, _, _, _, rfl, by simp [supAt], by omega⟩ ?_
  rintro k s ⟨i, y4, y8, y14, b0, rfl, rfl, hik⟩
  refine L_l03_PowerEnds_0_lit ?_
  unfold B_l03_PowerEnds_0
  have e1 : IntKind.i64.wrap ((x0.toNat : Int) + (x1.toNat : Int)) = ((x0.toNat + x1.toNat : Nat) : Int) := by rw [wrap64]; omega
  rcases k with _ | k
  · have g0 : decide ((i : Int) < ((x0.toNat + x1.toNat : Nat) : Int)) = false := decide_eq_false (by omega)
    have stq := (And.intro (cv) (And.intro (e1) (g0)))
    repeat first
      | ((with_reducible apply ends_bind); case h => first | (simp only [stp, stq]; first | done | rfl) | rfl)
      | ((with_reducible apply ends_t); case h => first | rfl | (simp only [stp, stq]; done))
      | ((with_reducible apply ends_f); case h => first | rfl | (simp only [stp, stq]; done))
    refine ends_some (.inr (.inl ⟨0, rfl, X_l03_PowerEnds_0_0_lit ?_⟩))
    unfold X_l03_PowerEnds_0_0
    have c3 : callA (evFn cx0 ext0 999) md_l03_PowerEnds [supAt x0.toNat i] 10 [.bp 0 0] = some (.v (.int .i64 ((min i x0.toNat : Nat) : Int)), [supAt x0.toNat i]) := callA_objT rfl (used_fn 998 _ _ _) (Nat.le_refl _)
    have c4 : callA (evFn cx0 ext0 999) md_l03_PowerEnds [supAt x0.toNat i] 11 [.bp 0 0] = some (.v (.bool (decide (x0.toNat < i))), [supAt x0.toNat i]) := callA_objT rfl (gone_fn 998 _ _ _) (Nat.le_refl _)
    have e2 : (((min i x0.toNat : Nat) : Int) == (x0.toNat : Int)) = true := by simp; omega
    have e3 : (decide (x0.toNat < i) == decide ((x1.toNat : Int) > 0)) = true := by
      by_cases h : 0 < x1.toNat
      · rw [decide_eq_true (by omega), decide_eq_true (by omega)]; rfl
      · rw [decide_eq_false (by omega), decide_eq_false (by omega)]; rfl
    have e4 : ∀ p q : Bool, binA Try.prog .eql 4 (.v (.bool p)) (.v (.bool q)) = some (.v (.bool (p == q))) := by
      intro p q
      cases p <;> cases q <;> kernel_rfl
    have e5 : ∀ n : Int, decide (0 < n) = decide (n > 0) := fun n => rfl
    have stq := (And.intro (c3) (And.intro (c4) (And.intro (cv) (And.intro (e2) (And.intro (e4) (And.intro (e5) (e3)))))))
    repeat first
      | ((with_reducible apply ends_bind); case h => first | (simp only [stp, stq]; first | done | rfl) | rfl)
      | ((with_reducible apply ends_t); case h => first | rfl | (simp only [stp, stq]; done))
      | ((with_reducible apply ends_f); case h => first | rfl | (simp only [stp, stq]; done))
    exact ends_some ⟨.inl rfl, _, rfl, rfl⟩
  · have g0 : decide ((i : Int) < ((x0.toNat + x1.toNat : Nat) : Int)) = true := decide_eq_true (by omega)
    obtain ⟨b1, b2, hu⟩ := use_at 998 x0.toNat i (by omega) (by omega)
    have c3 : callA (evFn cx0 ext0 999) md_l03_PowerEnds [supAt x0.toNat i] 9 [.bp 0 0] = some (.v (.int .i64 (if i < x0.toNat then 0 else 20)), [supAt x0.toNat (i + 1)]) := callA_objT rfl hu (by simp)
    have e3 : IntKind.i64.wrap ((i : Int) + 1) = ((i + 1 : Nat) : Int) := by rw [wrap64]; omega
    have e4 : ∀ p q : Bool, binA Try.prog .neq 4 (.v (.bool p)) (.v (.bool q)) = some (.v (.bool (p != q))) := by
      intro p q
      cases p <;> cases q <;> kernel_rfl
    by_cases h : i < x0.toNat
    · rw [if_pos h] at c3
      have e5 : decide ((i : Int) < (x0.toNat : Int)) = true := decide_eq_true (by omega)
      have e6 : ((0 : Int) == 0) = true := rfl
      have e7 : (true != true) = false := rfl
      have stq := (And.intro (cv) (And.intro (e1) (And.intro (g0) (And.intro (c3) (And.intro (e3) (And.intro (e4) (And.intro (e5) (And.intro (e6) (e7)))))))))
      repeat first
        | ((with_reducible apply ends_bind); case h => first | (simp only [stp, stq]; first | done | rfl) | rfl)
        | ((with_reducible apply ends_t); case h => first | rfl | (simp only [stp, stq]; done))
        | ((with_reducible apply ends_f); case h => first | rfl | (simp only [stp, stq]; done))
      exact ends_some (.inl ⟨rfl, k, by omega, i + 1, _, _, _, _, by first | rfl | (rw [← e3]; rfl), rfl, by omega⟩)
    · rw [if_neg h] at c3
      have e5 : decide ((i : Int) < (x0.toNat : Int)) = false := decide_eq_false (by omega)
      have e6 : ((20 : Int) == 0) = false := rfl
      have e7 : (false != false) = false := rfl
      have stq := (And.intro (cv) (And.intro (e1) (And.intro (g0) (And.intro (c3) (And.intro (e3) (And.intro (e4) (And.intro (e5) (And.intro (e6) (e7)))))))))
      repeat first
        | ((with_reducible apply ends_bind); case h => first | (simp only [stp, stq]; first | done | rfl) | rfl)
        | ((with_reducible apply ends_t); case h => first | rfl | (simp only [stp, stq]; done))
        | ((with_reducible apply ends_f); case h => first | rfl | (simp only [stp, stq]; done))
      exact ends_some (.inl ⟨rfl, k, by omega, i + 1, _, _, _, _, by first | rfl | (rw [← e3]; rfl), rfl, by omega⟩)
theorem void_ev (n : Int) : cf (evFn cx0 ext0 1000) 5 [.v (.int .i64 n)] = some (.v (.bool true)) := by
  have hw : callA (evFn cx0 ext0 999) md_l03_PowerVoid [] 6 [] = some (.v (.bool true), []) := by
    rw [callA_frozen rfl]
    simp only [List.map_nil, works_at 999 (by omega), Option.map_some]
  have c1 : ∃ r, callA (evFn cx0 ext0 999) md_l03_PowerVoid [] 15 [.v (.pointer none)] = some (r, []) := by
    obtain ⟨⟨r, b⟩, h1, h2⟩ := Option.map_eq_some_iff.1 (restore_nil 998)
    simp only at h2
    subst h2
    exact ⟨_, callA_objT rfl h1 (Nat.le_refl _)⟩
  obtain ⟨r, c1⟩ := c1
  have c2 : callA (evFn cx0 ext0 999) md_l03_PowerVoid [] 8 [.v (.pointer none), .v (.int .i64 n)] = some (.v (.int .i64 2), []) := callA_objT rfl (limit_nil 998 n) (Nat.le_refl _)
  have c3 : callA (evFn cx0 ext0 999) md_l03_PowerVoid [] 9 [.v (.pointer none)] = some (.v (.int .i64 0), []) := callA_objT rfl (use_fn 998 (use_nil [])) (Nat.zero_le _)
  have c4 : callA (evFn cx0 ext0 999) md_l03_PowerVoid [] 11 [.v (.pointer none)] = some (.v (.bool false), []) := callA_objT rfl (gone_nil 998) (Nat.le_refl _)
  have c5 : callA (evFn cx0 ext0 999) md_l03_PowerVoid [] 10 [.v (.pointer none)] = some (.v (.int .i64 0), []) := callA_objT rfl (used_nil 998) (Nat.le_refl _)
  have z0 : ((2 : Int) == 2) = true := rfl
  have z1 : ((0 : Int) == 0) = true := rfl
  unfold cf
  rw [E_l03_PowerVoid]
  refine ends_cf (P := Try.prog) ?_
  unfold F_l03_PowerVoid
  have stq := (And.intro (hw) (And.intro (n_tf) (And.intro (n_ft) (And.intro (c1) (And.intro (c2) (And.intro (c3) (And.intro (c4) (And.intro (c5) (And.intro (z0) (z1))))))))))
  repeat first
    | ((with_reducible apply ends_bind); case h => first | (simp only [stp, stq]; first | done | rfl) | rfl)
    | ((with_reducible apply ends_t); case h => first | rfl | (simp only [stp, stq]; done))
    | ((with_reducible apply ends_f); case h => first | rfl | (simp only [stp, stq]; done))
  exact ends_some ⟨.inl rfl, _, rfl, rfl⟩
end Go.Sy
