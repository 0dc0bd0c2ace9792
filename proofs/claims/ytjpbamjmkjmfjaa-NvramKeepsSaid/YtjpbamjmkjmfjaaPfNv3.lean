/-
  Layer 05: a turn of the words, wherever the power goes.
-/
import Derived.Test.YtjpbamjmkjmfjaaPfNv2
namespace Go.Sy
open Go.Proofs Num Crc

/-- the boxes in a round -/
abbrev rb (l u : Int) (gn : Bool) (W : List AV) (k : BitVec 32) (i : Nat) : Bx := [sup l u gn, W, [.bp 1 0], [v32 k], rows, [.v (.int .i64 (rowA i)), rowF i]]
theorem use_c (m : Nat) (l u : Int) (i : Nat) (hl : l = -1 ∨ (0 ≤ l ∧ l ≤ 4)) (hi : i < 3) (hk : i ≤ rds l) (t g s k : BitVec 32) :
    ∃ u', callA (evFn cx0 ext0 (m + 1)) md_nvram_Words_to (rb (lft l i) u false (wds t g s) k i) 25 [.bp 0 0] = some (.v (.int .i64 (if i < rds l then 0 else 20)), rb (if i < rds l then lft l (i + 1) else lft l i) u' (!decide (i < rds l)) (wds t g s) k i) := by
  obtain ⟨u', r, h⟩ := use_6 m l u i hl hi hk (wds t g s) [.bp 1 0] [v32 k] rows [.v (.int .i64 (rowA i)), rowF i]
  refine ⟨u', ?_⟩
  rw [callA_objT rfl h (by simp)]
  exact congrArg (fun z => some (AV.v (.int .i64 (if i < rds l then 0 else 20)), z)) (keep6 _ _ _ t g s k i hi)
theorem clo (m : Nat) (l u : Int) (gn : Bool) (t g s k : BitVec 32) (i : Nat) (hi : i < 3) (v : BitVec 32) (f : FuncId) (pre caps : List AV) (hf : rowF i = .fn f pre caps) (hm : mdV md_nvram_Words_to f = .objR)
    (h : ∃ r, evFn cx0 ext0 (m + 60) f (pre ++ [] ++ caps) (rb l u gn (wds t g s) k i) = some (v32 v, rb l u gn (wds t g s) k i ++ r)) :
    callV (evFn cx0 ext0 (m + 60)) (mdV md_nvram_Words_to) (rb l u gn (wds t g s) k i) [] (rowF i) = some (v32 v, rb l u gn (wds t g s) k i) := by
  obtain ⟨r, h⟩ := h
  rw [hf]
  show callA _ _ _ f (pre ++ [] ++ caps) = _
  rw [callA_objR hm h (by simp) ?_]
  · rfl
  · exact (congrArg (fun z => eqBx z (rb l u gn (wds t g s) k i)) (keep6 l u gn t g s k i hi)).trans (eq6 l u gn t g s k i hi)
set_option maxRecDepth 100000 in
theorem to_raw (m : Nat) (l u : Int) (hl : l = -1 ∨ (0 ≤ l ∧ l ≤ 4)) (t g s k : BitVec 32) : ∃ u' r, evFn cx0 ext0 (m + 62) 20 [.bp 1 0, v32 k] [sup l u false, wds t g s] = some (.v (.int .i64 (if rds l = 3 then 0 else 20)), [sup (lft l (rds l)) u' (decide (rds l < 3)), wst t g s k (rds l)] ++ r) := by
  have hr3 : rds l ≤ 3 := by unfold rds; split <;> omega
  have key : Ends (F_nvram_Words_to (evFn cx0 ext0 (m + 61)) (m + 61) 2 (.bp 1 0) (v32 k) [sup l u false, wds t g s]) fun e st => (e = .ret ∨ e = .normal) ∧ ∃ u' r, resL Try.prog st.env st.bx [.tmp 4] = some [.v (.int .i64 (if rds l = 3 then 0 else 20))] ∧ st.bx = [sup (lft l (rds l)) u' (decide (rds l < 3)), wst t g s k (rds l)] ++ r := by
    unfold F_nvram_Words_to
    have lp := fun r => ld_p (sup l u false) (wds t g s) r
    have bl := bl_1 k
    have hl0 : lft l 0 = l := by unfold lft; split <;> simp_all
    have stq := (And.intro (bx_p) (And.intro (bx_v) (And.intro (lp) (And.intro (bl) (And.intro (bs_r) (ln_r))))))
    repeat first
      | ((with_reducible apply ends_bind); case h => first | (simp only [stp, stq]; first | done | rfl) | rfl)
      | ((with_reducible apply ends_t); case h => first | rfl | (simp only [stp, stq]; done))
      | ((with_reducible apply ends_f); case h => first | rfl | (simp only [stp, stq]; done))
    refine ends_loop (fun d st => ∃ (i : Nat) (u' : Int) (y0 y1 : AV) (b0 b1 b2 b3 b4 : List AV), st = ⟨[(17, .v (.int .i64 i)), (16, .v (.int .i64 3)), (15, .bsl 4 0 3 2), (4, .v (.int .i64 0)), (3, .bp 3 0), (2, .bp 2 0), (0, y0), (1, y1)], [b0, b1, b2, b3, b4]⟩ ∧
      b0 = sup (lft l i) u' false ∧ b1 = wst t g s k i ∧ b2 = [.bp 1 0] ∧ b3 = [v32 k] ∧ b4 = rows ∧ i ≤ rds l ∧ i + d = 3) 3 (by omega) ⟨0, u, _, _, _, _, _, _, _, rfl, by rw [hl0], rfl, rfl, rfl, rfl, by omega, by omega⟩ ?_
    rintro d st ⟨i, u1, y0, y1, b0, b1, b2, b3, b4, rfl, rfl, rfl, rfl, rfl, rfl, hik, hd⟩
    refine L_nvram_Words_to_0_lit ?_
    unfold B_nvram_Words_to_0
    rcases d with _ | d
    · obtain rfl : i = 3 := by omega
      have hk3 : rds l = 3 := by omega
      have g2 : decide (((3 : Nat) : Int) < 3) = false := by decide
      have stq := (g2)
      repeat first
        | ((with_reducible apply ends_bind); case h => first | (simp only [stp, stq]; first | done | rfl) | rfl)
        | ((with_reducible apply ends_t); case h => first | rfl | (simp only [stp, stq]; done))
        | ((with_reducible apply ends_f); case h => first | rfl | (simp only [stp, stq]; done))
      refine ends_some (.inr (.inl ⟨0, rfl, X_nvram_Words_to_0_0_lit ?_⟩))
      unfold X_nvram_Words_to_0_0
      rw [if_pos hk3, hk3]
      exact ends_some ⟨.inl rfl, u1, _, rfl, rfl⟩
    · have hi : i < 3 := by omega
      have g2 : decide ((i : Int) < 3) = true := decide_eq_true (by omega)
      have e3 : IntKind.i64.wrap ((i : Int) + 1) = ((i + 1 : Nat) : Int) := by rw [wrap64]; omega
      have xr := ix_r i hi
      have ld := fun S W A B r => ld_r S W A B r i hi
      have sr := fun S W A B C => st_r S W A B C i hi
      obtain ⟨t', g', s', hw⟩ : ∃ t' g' s', wst t g s k i = wds t' g' s' := by
        rcases i with _ | _ | _ | i
        · exact ⟨_, _, _, rfl⟩
        · exact ⟨_, _, _, rfl⟩
        · exact ⟨_, _, _, rfl⟩
        · omega
      obtain ⟨u2, cu⟩ := use_c (m + 60) l u1 i hl hi hik t' g' s' k
      rw [hw]
      have lp2 := fun S W r => ld_p S W r
      have ls := fun S r => ld_s S t' g' s' r
      have fw := fa_w
      have np := nil_p
      by_cases hlt : i < rds l
      · simp only [if_pos hlt, decide_eq_true hlt, Bool.not_true] at cu
        have g3 : ((0 : Int) != 0) = false := rfl
        have fr := fa_r
        have lc := ld_c
        rcases i with _ | _ | _ | i
        · have c2 := clo (m + 1) (lft l 1) u2 false t' g' s' k 0 (by omega) k 23 [] [.bp 3 0] rfl rfl ⟨[], by rw [List.append_nil]; exact to1_raw (m + 60) _ _ _ _ _ k⟩
          have sw := fun S r => (st_w S t' g' s' k r).2.1
          have hw2 : wst t g s k 1 = wds t' k s' := by
            have : wds t g s = wds t' g' s' := hw
            simp only [wds, List.cons.injEq, true_and, and_true] at this
            unfold wst
            simp only [wds, List.cons.injEq, true_and, and_true]
            exact ⟨this.1, this.2.2⟩
          have iw : indexAddrA Try.prog 45 (.bp 1 1) (.v (.int .i64 (rowA 0))) = some (.bp 1 2) := ia_w.2.1
          have stq := (And.intro (g2) (And.intro (xr) (And.intro (ld) (And.intro (al_r) (And.intro (sr) (And.intro (lp2) (And.intro (np) (And.intro (fw) (And.intro (ls) (And.intro (cu) (And.intro (g3) (And.intro (fr) (And.intro (lc) (And.intro (c2) (And.intro (iw) (And.intro (sw) (e3)))))))))))))))))
          repeat first
            | ((with_reducible apply ends_bind); case h => first | (simp only [stp, stq]; first | done | rfl) | rfl)
            | ((with_reducible apply ends_t); case h => first | rfl | (simp only [stp, stq]; done))
            | ((with_reducible apply ends_f); case h => first | rfl | (simp only [stp, stq]; done))
          refine ends_some (.inl ⟨rfl, d, by omega, 1, u2, _, _, _, _, _, _, _, rfl, rfl, ?_, rfl, rfl, rfl, by omega, by omega⟩)
          rw [hw2]
          rfl
        · have c2 := clo (m + 1) (lft l 2) u2 false t' g' s' k 1 (by omega) (t' + 1) 24 [] [.bp 2 0] rfl rfl ⟨[], by rw [List.append_nil]; exact to2_raw (m + 60) _ _ _ _ t' g' s'⟩
          have sw := fun S r => (st_w S t' g' s' (t' + 1) r).1
          have hw2 : wst t g s k 2 = wds (t' + 1) g' s' := by
            have : wds t k s = wds t' g' s' := hw
            simp only [wds, List.cons.injEq, true_and, and_true, AV.v.injEq, Value.int.injEq] at this
            unfold wst
            simp only [wds, List.cons.injEq, true_and, and_true, AV.v.injEq, Value.int.injEq]
            obtain ⟨h1, h2, h3⟩ := this
            exact ⟨by rw [i32_inj h1], h2, h3⟩
          have iw : indexAddrA Try.prog 45 (.bp 1 1) (.v (.int .i64 (rowA 1))) = some (.bp 1 1) := ia_w.1
          have stq := (And.intro (g2) (And.intro (xr) (And.intro (ld) (And.intro (al_r) (And.intro (sr) (And.intro (lp2) (And.intro (np) (And.intro (fw) (And.intro (ls) (And.intro (cu) (And.intro (g3) (And.intro (fr) (And.intro (lc) (And.intro (c2) (And.intro (iw) (And.intro (sw) (e3)))))))))))))))))
          repeat first
            | ((with_reducible apply ends_bind); case h => first | (simp only [stp, stq]; first | done | rfl) | rfl)
            | ((with_reducible apply ends_t); case h => first | rfl | (simp only [stp, stq]; done))
            | ((with_reducible apply ends_f); case h => first | rfl | (simp only [stp, stq]; done))
          refine ends_some (.inl ⟨rfl, d, by omega, 2, u2, _, _, _, _, _, _, _, rfl, rfl, ?_, rfl, rfl, rfl, by omega, by omega⟩)
          rw [hw2]
          rfl
        · have c2 := clo (m + 1) (lft l 3) u2 false t' g' s' k 2 (by omega) (tot t' g') 21 [.bp 1 0] [] rfl rfl (tot_raw6 (m + 1) _ _ _ t' g' s' _ _ _ _)
          have sw := fun S r => (st_w S t' g' s' (tot t' g') r).2.2
          have hw2 : wst t g s k 3 = wds t' g' (tot t' g') := by
            have : wds (t + 1) k s = wds t' g' s' := hw
            simp only [wds, List.cons.injEq, true_and, and_true, AV.v.injEq, Value.int.injEq] at this
            obtain ⟨h1, h2, h3⟩ := this
            show wds (t + 1) k (tot (t + 1) k) = _
            rw [i32_inj h1, i32_inj h2]
          have iw : indexAddrA Try.prog 45 (.bp 1 1) (.v (.int .i64 (rowA 2))) = some (.bp 1 3) := ia_w.2.2
          have stq := (And.intro (g2) (And.intro (xr) (And.intro (ld) (And.intro (al_r) (And.intro (sr) (And.intro (lp2) (And.intro (np) (And.intro (fw) (And.intro (ls) (And.intro (cu) (And.intro (g3) (And.intro (fr) (And.intro (lc) (And.intro (c2) (And.intro (iw) (And.intro (sw) (e3)))))))))))))))))
          repeat first
            | ((with_reducible apply ends_bind); case h => first | (simp only [stp, stq]; first | done | rfl) | rfl)
            | ((with_reducible apply ends_t); case h => first | rfl | (simp only [stp, stq]; done))
            | ((with_reducible apply ends_f); case h => first | rfl | (simp only [stp, stq]; done))
          refine ends_some (.inl ⟨rfl, d, by omega, 3, u2, _, _, _, _, _, _, _, rfl, rfl, ?_, rfl, rfl, rfl, by omega, by omega⟩)
          rw [hw2]
          rfl
        · omega
      · simp only [if_neg hlt, decide_eq_false hlt, Bool.not_false] at cu
        have g3 : ((20 : Int) != 0) = true := rfl
        have stq := (And.intro (g2) (And.intro (xr) (And.intro (ld) (And.intro (al_r) (And.intro (sr) (And.intro (lp2) (And.intro (np) (And.intro (fw) (And.intro (ls) (And.intro (cu) (g3)))))))))))
        repeat first
          | ((with_reducible apply ends_bind); case h => first | (simp only [stp, stq]; first | done | rfl) | rfl)
          | ((with_reducible apply ends_t); case h => first | rfl | (simp only [stp, stq]; done))
          | ((with_reducible apply ends_f); case h => first | rfl | (simp only [stp, stq]; done))
        obtain rfl : i = rds l := by omega
        rw [if_neg (by omega), decide_eq_true hi, hw]
        exact ends_some (.inr (.inr ⟨rfl, .inl rfl, u2, _, rfl, rfl⟩))
  rw [E_nvram_Words_to]
  obtain ⟨e, st, h1, h2, u', r, h3, h4⟩ := key
  refine ⟨u', r, ?_⟩
  refine ends_fin (P := Try.prog) ⟨e, st, h1, h2, _, h3, ?_⟩
  rw [h4]
  rfl
end Go.Sy
