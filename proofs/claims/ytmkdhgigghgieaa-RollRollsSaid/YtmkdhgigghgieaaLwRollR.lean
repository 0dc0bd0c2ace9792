/-
  Layer 15: the law RollRolls as the reader reads it.
-/
import Derived.Test.YtmkdhgigghgieaaPfRollD
import Derived.Test.YtmkdhgigghgieaaLwRollW
import Derived.Test.YtmkdhgigghgieaaLwRollF
import Derived.Test.YtmkdhgigghgieaaSyUptoK
namespace Go.Sy
open Go.Proofs Num Crc Seal

theorem few_idem (L : List Pt) : ((((L.take 20).map few1).take 20).map few1) = (L.take 20).map few1 := by
  rw [List.take_of_length_le (by rw [List.length_map, List.length_take]; omega), List.map_map]
  refine List.map_congr_left fun p _ => ?_
  show few1 (few1 p) = few1 p
  unfold few1
  simp [List.take_take]
theorem overV_eq (b : List UInt8) (R : Option (List UInt8)) : overV b R = .tup [.agg (u8l (R.getD b)), .v (.int .i64 (if R.isSome then 0 else 2))] := by
  cases R <;> rfl
set_option maxRecDepth 100000 in
theorem rolls_ev (b : List UInt8) (hb : b.length = 64) (L0 : List Pt) (ids : List Int) {n : Nat} (hn : 1100 ≤ n) (hin : ids.length + 600 ≤ n) (hi : ids.length * 8 ≤ 2 ^ 47) : cf (evFn cx0 ext0 (n + 1)) 5 [.agg (u8l b), psl true L0, isl true ids] = some (.v (.bool true)) := by
  have hw := works_at n (by omega)
  have hf := few_ev (k := n) (by omega) true L0
  have hf2 := few_ev (k := n) (by omega) false ((L0.take 20).map few1)
  rw [few_idem] at hf2
  have hLl : ((L0.take 20).map few1).length ≤ 20 := by
    rw [List.length_map, List.length_take]
    omega
  have hLd : ∀ p ∈ (L0.take 20).map few1, p.data.length < 2 ^ 32 ∧ p.needs.length ≤ 6 := by
    intro p hp
    obtain ⟨q, _, rfl⟩ := List.mem_map.1 hp
    show (q.data.take 70).length < _ ∧ (q.needs.take 6).length ≤ 6
    rw [List.length_take, List.length_take]
    omega
  generalize (L0.take 20).map few1 = L at *
  have c1 := Now_gen (n := n) (by omega) false b hb L (by omega) (fun p hp => (hLd p hp).1)
  have c2 := rNow_ev (n := n) (by omega) false b hb L (by omega) (fun p hp => (hLd p hp).1)
  have c3 := Some_gen (n := n) (by omega) false false b hb L (by omega) (fun p hp => (hLd p hp).1) ids (by omega) (by omega)
  have c4 := rSome_ev (n := n) (by omega) true b hb L (by omega) (fun p hp => (hLd p hp).1) ids (by omega) (by omega)
  have c5 : cf (evFn cx0 ext0 n) 19 [isl true ids] = some (isl false ids) := by obtain ⟨m, rfl⟩ : ∃ m, n = m + 1 := ⟨n - 1, by omega⟩; exact ints_ev m true ids (by omega)
  have c6 := Without_ev (n := n) false L (by omega) ids false (by omega) (by omega)
  have c7 := rWithout_ev (n := n) L (by omega) ids true (by omega) (by omega)
  have hA : ((foldP yes (nxtT b) L b).getD b).length = 64 := by
    rcases h : foldP yes (nxtT b) L b with _ | O
    · exact hb
    · exact foldP_len _ _ _ _ _ hb h
  have hB' : ((foldP (fun x => ids.contains x) (nxtT b) L b).getD b).length = 64 := by
    rcases h : foldP (fun x => ids.contains x) (nxtT b) L b with _ | O
    · exact hb
    · exact foldP_len _ _ _ _ _ hb h
  rw [overV_eq] at c1 c2 c3 c4
  generalize (foldP yes (nxtT b) L b).getD b = A at *
  generalize (foldP (fun x => ids.contains x) (nxtT b) L b).getD b = C at *
  generalize (if (foldP yes (nxtT b) L b).isSome then (0 : Int) else 2) = e at *
  generalize (if (foldP (fun x => ids.contains x) (nxtT b) L b).isSome then (0 : Int) else 2) = e' at *
  have hMl : (wo ids L).length ≤ 20 := Nat.le_trans (wo_len ids L) hLl
  have hMd : ∀ p ∈ wo ids L, p.needs.length ≤ 6 := fun p hp => (hLd p (List.mem_filter.1 hp).1).2
  generalize wo ids L = M at *
  have lp := len_p false M
  have fp := fun bx => frz_psl bx true L0
  have fp2 := fun bx => frz_psl bx false L
  have fi := fun bx => frz_isl bx true ids
  have fi2 := fun bx => frz_isl bx false ids
  have lB := lds hB
  have sB := sts hB
  have aB := al_a hB
  have zl6 : (zero 64).length = 64 := rfl
  have eA := (eq_a hB (P := Try.prog) (a := A) (b := A) hA hA).2
  have eC := (eq_a hB (P := Try.prog) (a := C) (b := C) hB' hB').2
  have bA : (A == A) = true := by simp
  have bC : (C == C) = true := by simp
  unfold cf
  rw [E_l15_RollRolls]
  refine ends_cf (P := Try.prog) ?_
  unfold F_l15_RollRolls
  have stq := (And.intro (box_agg) (And.intro (fp) (And.intro (fp2) (And.intro (fi) (And.intro (fi2) (And.intro (hf) (And.intro (hf2) (And.intro (aB) (And.intro (lB) (And.intro (sB) (And.intro (hb) (And.intro (hA) (And.intro (hB') (And.intro (zl6) (And.intro (frz_agg) (And.intro (c1) (And.intro (c2) (And.intro (c3) (And.intro (c4) (And.intro (c5) (And.intro (c6) (And.intro (c7) (And.intro (eA) (And.intro (eC) (And.intro (bA) (And.intro (bC) (And.intro (n_tf) (lp))))))))))))))))))))))))))))
  repeat first
    | ((with_reducible apply ends_bind); case h => first | (simp only [stp, stq]; first | done | rfl) | rfl)
    | ((with_reducible apply ends_t); case h => first | rfl | (simp only [stp, stq]; done))
    | ((with_reducible apply ends_f); case h => first | rfl | (simp only [stp, stq]; done))
  refine ends_loop (fun kk s => ∃ (j : Nat) (y81 y14 y13 y12 y11 y10 y9 y8 y7 y1 y6 y3 y0 z1 y2 : AV) (d0 d1 d2 d3 d4 : List AV), s = ⟨[(17, .v (.int .i64 j)), (81, y81), (16, psl false M), (15, psl false M), (14, y14), (13, y13), (12, y12), (11, y11), (10, y10), (9, y9), (8, y8), (7, y7), (1, y1), (6, y6), (3, y3), (0, y0), (1, z1), (2, y2)], [d0, d1, d2, d3, d4]⟩ ∧ j + kk = M.length) M.length (by omega) ⟨0, _, _, _, _, _, _, _, _, _, _, _, _, _, _, _, _, _, _, _, _, rfl, by omega⟩ ?_
  rintro kk s ⟨j, y81, y14, y13, y12, y11, y10, y9, y8, y7, y1, y6, y3, y0, z1, y2, d0, d1, d2, d3, d4, rfl, hkk⟩
  refine L_l15_RollRolls_0_lit ?_
  unfold B_l15_RollRolls_0
  by_cases hx : j < M.length
  · have g0 : decide ((j : Int) < (M.length : Int)) = true := decide_eq_true (by omega)
    have i0 := idx_p false M j hx
    have q0 := fun bx => ld_ipp bx false M[j] (flatP false (M.drop (j + 1)))
    have hfz : ∀ bx, frz bx true 6 (.agg (pt false M[j])) = .agg (pt false M[j]) := fun bx => rfl
    have hm := hMd M[j] (List.getElem_mem hx)
    have cS := Same_ev (n := n) M[j] (by omega) (by omega)
    have z : ((0 : Int) == 1) = false := rfl
    have e3 : IntKind.i64.wrap ((j : Int) + 1) = ((j + 1 : Nat) : Int) := by rw [wrap64]; omega
    have stq := (And.intro (lp) (And.intro (g0) (And.intro (i0) (And.intro (q0) (And.intro (hfz) (And.intro (cS) (And.intro (z) (e3))))))))
    repeat first
      | ((with_reducible apply ends_bind); case h => first | (simp only [stp, stq]; first | done | rfl) | rfl)
      | ((with_reducible apply ends_t); case h => first | rfl | (simp only [stp, stq]; done))
      | ((with_reducible apply ends_f); case h => first | rfl | (simp only [stp, stq]; done))
    exact ends_some (.inl ⟨rfl, kk - 1, by omega, j + 1, _, _, _, _, _, _, _, _, _, _, _, _, _, _, _, _, _, _, _, _, by first | rfl | (rw [← e3]; rfl), by omega⟩)
  · have g0 : decide ((j : Int) < (M.length : Int)) = false := decide_eq_false (by omega)
    have stq := (And.intro (lp) (g0))
    repeat first
      | ((with_reducible apply ends_bind); case h => first | (simp only [stp, stq]; first | done | rfl) | rfl)
      | ((with_reducible apply ends_t); case h => first | rfl | (simp only [stp, stq]; done))
      | ((with_reducible apply ends_f); case h => first | rfl | (simp only [stp, stq]; done))
    refine ends_some (.inr (.inl ⟨0, rfl, X_l15_RollRolls_0_0_lit ?_⟩))
    unfold X_l15_RollRolls_0_0
    have stq := (hw)
    repeat first
      | ((with_reducible apply ends_bind); case h => first | (simp only [stp, stq]; first | done | rfl) | rfl)
      | ((with_reducible apply ends_t); case h => first | rfl | (simp only [stp, stq]; done))
      | ((with_reducible apply ends_f); case h => first | rfl | (simp only [stp, stq]; done))
    exact ends_some ⟨.inl rfl, _, rfl, rfl⟩
end Go.Sy
