/-
  Layer 05's law NvramVoid as the reader reads it.
-/
import Derived.Test.YtjpbamjmkjmfjaaLwNvW
namespace Go.Sy
open Go.Proofs

theorem callA_objT {E : FnA} {md : FuncId → Md} {f : FuncId} (h : md f = .objT) {bx bx' : Bx} {args : List AV} {r : AV} (hr : E f args bx = some (r, bx')) (hl : bx.length ≤ bx'.length) :
    callA E md bx f args = some (r.keep (· < bx.length), (bx'.take bx.length).map fun l => l.map (AV.keep (· < bx.length))) := by
  unfold callA
  simp only [h, hr, Option.bind_some, hl, if_true]
theorem callA_objR {E : FnA} {md : FuncId → Md} {f : FuncId} (h : md f = .objR) {bx bx' : Bx} {args : List AV} {r : AV} (hr : E f args bx = some (r, bx')) (hl : bx.length ≤ bx'.length) (he : eqBx ((bx'.take bx.length).map fun l => l.map (AV.keep (· < bx.length))) bx = true) :
    callA E md bx f args = some (r.keep (· < bx.length), bx) := by
  unfold callA
  simp only [h, hr, Option.bind_some, hl, he, and_self, if_true]
abbrev nilP : AV := .v (.pointer none)
theorem get_nil (m : Nat) (g : Int) : evFn cx0 ext0 (m + 2) 16 [nilP, .v (.int .i64 g)] [] = some (.tup [.v (.int .u32 0), .v (.int .i64 1)], []) := by kernel_rfl
theorem says_nil (m : Nat) : evFn cx0 ext0 (m + 1) 11 [nilP] [] = some (.tup [.v (.int .u32 0), .v (.bool false)], []) := by kernel_rfl
theorem mark_nil (m : Nat) (g : Int) : evFn cx0 ext0 (m + 1) 9 [nilP, .v (.int .i64 g)] [] = some (.v (.int .i64 1), []) := by kernel_rfl
theorem keep_nil (m : Nat) (x : Nat) : evFn cx0 ext0 (m + 1) 15 [nilP, .v (.int .u32 x)] [] = some (.v (.int .i64 1), []) := by kernel_rfl
theorem clear_nil (m : Nat) : evFn cx0 ext0 (m + 2) 8 [nilP] [] = some (.v (.int .i64 1), []) := by kernel_rfl
theorem poke_nil (m : Nat) (g : Int) (x : Nat) : evFn cx0 ext0 (m + 2) 17 [nilP, .v (.int .i64 g), .v (.int .u32 x)] [] = some (.v (.int .i64 1), []) := by kernel_rfl
theorem group_ev (m : Nat) (g : Int) : cf (evFn cx0 ext0 (m + 1)) 19 [.v (.int .i64 g)] = some (.v (.bool (decide (0 ≤ g ∧ g < 8)))) := by
  unfold cf
  rw [E_nvram_group]
  refine ends_cf (P := Try.prog) ?_
  unfold F_nvram_group
  by_cases h1 : 0 ≤ g
  · have g1 : decide (g ≥ 0) = true := decide_eq_true h1
    have g2 : decide (0 ≤ g ∧ g < 8) = decide (g < 8) := by simp [h1]
    rw [g2]
    have stq := (g1)
    repeat first
      | ((with_reducible apply ends_bind); case h => first | (simp only [stp, stq]; first | done | rfl) | rfl)
      | ((with_reducible apply ends_t); case h => first | rfl | (simp only [stp, stq]; done))
      | ((with_reducible apply ends_f); case h => first | rfl | (simp only [stp, stq]; done))
    exact ends_some ⟨.inl rfl, _, rfl, by cases decide (g < 8) <;> rfl⟩
  · have g1 : decide (g ≥ 0) = false := decide_eq_false h1
    have g2 : decide (0 ≤ g ∧ g < 8) = false := by simp [h1]
    rw [g2]
    have stq := (g1)
    repeat first
      | ((with_reducible apply ends_bind); case h => first | (simp only [stp, stq]; first | done | rfl) | rfl)
      | ((with_reducible apply ends_t); case h => first | rfl | (simp only [stp, stq]; done))
      | ((with_reducible apply ends_f); case h => first | rfl | (simp only [stp, stq]; done))
    exact ends_some ⟨.inl rfl, _, rfl, rfl⟩
theorem marked_nil (m : Nat) (g : Int) : evFn cx0 ext0 (m + 2) 14 [nilP, .v (.int .i64 g)] [] = some (.v (.bool false), []) := by
  have c1 : callA (evFn cx0 ext0 (m + 1)) md_nvram_Words_Marked [] 11 [nilP] = some (.tup [.v (.int .u32 0), .v (.bool false)], []) := callA_objR rfl (says_nil m) (Nat.le_refl _) rfl
  have c2 : callA (evFn cx0 ext0 (m + 1)) md_nvram_Words_Marked [] 19 [.v (.int .i64 g)] = some (.v (.bool (decide (0 ≤ g ∧ g < 8))), []) := by
    rw [callA_frozen rfl]
    show (cf (evFn cx0 ext0 (m + 1)) 19 [.v (.int .i64 g)]).map _ = _
    rw [group_ev]
    rfl
  rw [E_nvram_Words_Marked]
  refine ends_fin (P := Try.prog) ?_
  unfold F_nvram_Words_Marked
  by_cases h : 0 ≤ g ∧ g < 8
  · rw [decide_eq_true h] at c2
    have hs : binA Try.prog .shr 32 (.v (.int .u32 0)) (.v (.int .i64 g)) = some (.v (.int .u32 0)) := by
      have h1 : binA Try.prog .shr 32 (.v (.int .u32 0)) (.v (.int .i64 g)) = (shA .shr .u32 0 g).map .v := rfl
      rw [h1]
      unfold shA
      rw [if_neg (by omega)]
      simp
    have ha : binA Try.prog .and 32 (.v (.int .u32 0)) (.v (.int .u32 1)) = some (.v (.int .u32 0)) := by kernel_rfl
    have z1 : ((0 : Int) == 1) = false := rfl
    have stq := (And.intro (c1) (And.intro (c2) (And.intro (hs) (And.intro (ha) (z1)))))
    repeat first
      | ((with_reducible apply ends_bind); case h => first | (simp only [stp, stq]; first | done | rfl) | rfl)
      | ((with_reducible apply ends_t); case h => first | rfl | (simp only [stp, stq]; done))
      | ((with_reducible apply ends_f); case h => first | rfl | (simp only [stp, stq]; done))
    exact ends_some ⟨.inl rfl, _, rfl, rfl⟩
  · rw [decide_eq_false h] at c2
    have stq := (And.intro (c1) (c2))
    repeat first
      | ((with_reducible apply ends_bind); case h => first | (simp only [stp, stq]; first | done | rfl) | rfl)
      | ((with_reducible apply ends_t); case h => first | rfl | (simp only [stp, stq]; done))
      | ((with_reducible apply ends_f); case h => first | rfl | (simp only [stp, stq]; done))
    exact ends_some ⟨.inl rfl, _, rfl, rfl⟩
theorem void_ev (g : Int) (x : Nat) : cf (evFn cx0 ext0 1000) 4 [.v (.int .i64 g), .v (.int .u32 x)] = some (.v (.bool true)) := by
  have hw : callA (evFn cx0 ext0 999) md_l05_NvramVoid [] 5 [] = some (.v (.bool true), []) := by
    rw [callA_frozen rfl]
    simp only [List.map_nil, works_at 999 (by omega), Option.map_some]
  have c1 : callA (evFn cx0 ext0 999) md_l05_NvramVoid [] 16 [nilP, .v (.int .i64 g)] = some (.tup [.v (.int .u32 0), .v (.int .i64 1)], []) := callA_objR rfl (get_nil 997 g) (Nat.le_refl _) rfl
  have c2 : callA (evFn cx0 ext0 999) md_l05_NvramVoid [] 11 [nilP] = some (.tup [.v (.int .u32 0), .v (.bool false)], []) := callA_objR rfl (says_nil 998) (Nat.le_refl _) rfl
  have c3 : callA (evFn cx0 ext0 999) md_l05_NvramVoid [] 9 [nilP, .v (.int .i64 g)] = some (.v (.int .i64 1), []) := callA_objT rfl (mark_nil 998 g) (Nat.le_refl _)
  have c4 : callA (evFn cx0 ext0 999) md_l05_NvramVoid [] 8 [nilP] = some (.v (.int .i64 1), []) := callA_objT rfl (clear_nil 997) (Nat.le_refl _)
  have c5 : callA (evFn cx0 ext0 999) md_l05_NvramVoid [] 15 [nilP, .v (.int .u32 x)] = some (.v (.int .i64 1), []) := callA_objT rfl (keep_nil 998 x) (Nat.le_refl _)
  have c6 : callA (evFn cx0 ext0 999) md_l05_NvramVoid [] 17 [nilP, .v (.int .i64 g), .v (.int .u32 x)] = some (.v (.int .i64 1), []) := callA_objT rfl (poke_nil 997 g x) (Nat.le_refl _)
  have c7 : callA (evFn cx0 ext0 999) md_l05_NvramVoid [] 14 [nilP, .v (.int .i64 g)] = some (.v (.bool false), []) := callA_objR rfl (marked_nil 997 g) (Nat.le_refl _) rfl
  have z0 : ((1 : Int) == 1) = true := rfl
  have z1 : ((0 : Int) == 0) = true := rfl
  unfold cf
  rw [E_l05_NvramVoid]
  refine ends_cf (P := Try.prog) ?_
  unfold F_l05_NvramVoid
  have stq := (And.intro (hw) (And.intro (n_tf) (And.intro (n_ft) (And.intro (c1) (And.intro (c2) (And.intro (c3) (And.intro (c4) (And.intro (c5) (And.intro (c6) (And.intro (c7) (And.intro (z0) (z1))))))))))))
  repeat first
    | ((with_reducible apply ends_bind); case h => first | (simp only [stp, stq]; first | done | rfl) | rfl)
    | ((with_reducible apply ends_t); case h => first | rfl | (simp only [stp, stq]; done))
    | ((with_reducible apply ends_f); case h => first | rfl | (simp only [stp, stq]; done))
  exact ends_some ⟨.inl rfl, _, rfl, rfl⟩
end Go.Sy
