/-
  Layer 11: the law PtrsWays as the reader reads it.
-/
import Derived.Test.YtjmdohmfienfoaaPfPtrs
namespace Go.Sy
open Go.Proofs

theorem works_at (n : Nat) (h : 60 ≤ n) : cf (evFn cx0 ext0 n) 9 [] = some (.v (.bool true)) := by
  obtain ⟨m, rfl⟩ : ∃ m, n = m + 60 := ⟨n - 60, by omega⟩
  kernel_rfl
theorem toV_form (k : Int) : ∃ p q r e, toV k = .tup [wV p q r, .v (.int .i64 e)] := by
  unfold toV
  split
  · exact ⟨_, _, _, _, rfl⟩
  · exact ⟨_, _, _, _, rfl⟩
theorem bV_form (a b c : Int) : ∃ p e, bV a b c = .tup [.v (.int .i64 p), .v (.int .i64 e)] := by
  unfold bV
  split
  · exact ⟨_, _, rfl⟩
  · exact ⟨_, _, rfl⟩
theorem ways_ev (k a b c s : Int) : cf (evFn cx0 ext0 1000) 4 [.v (.int .i64 k), wV a b c, .v (.int .i64 s)] = some (.v (.bool true)) := by
  have hw := works_at 999 (by omega)
  have b0 := fun bx => box_w bx a b c
  have c1 : cf (evFn cx0 ext0 999) 10 [.v (.int .i64 k)] = _ := To_ev 998 k
  have c2 : cf (evFn cx0 ext0 999) 11 [.v (.int .i64 k)] = _ := rTo_ev 998 k
  have c3 : cf (evFn cx0 ext0 999) 12 [wV a b c] = _ := Block_ev 997 a b c
  have c4 : cf (evFn cx0 ext0 999) 13 [wV a b c] = _ := rBlock_ev 999 (by omega) a b c
  have c5 : cf (evFn cx0 ext0 999) 7 [.v (.int .i64 s)] = _ := Blocks_ev 998 s
  have c6 : cf (evFn cx0 ext0 999) 8 [.v (.int .i64 s)] = _ := rBlocks_ev 998 s
  obtain ⟨p, q, r, e, h1⟩ := toV_form k
  obtain ⟨n1, e1, h2⟩ := bV_form a b c
  rw [h1] at c1 c2
  rw [h2] at c3 c4
  unfold cf
  rw [E_l11_PtrsWays]
  refine ends_cf (P := Try.prog) ?_
  unfold F_l11_PtrsWays
  have stq := (And.intro (hw) (And.intro (b0) (And.intro (al_w) (And.intro (st_w1) (And.intro (st_w2) (And.intro (ld_w0) (And.intro (li_0) (And.intro (li_1) (And.intro (li_2) (And.intro (fa_w) (And.intro (fa_wr) (And.intro (frz_w) (And.intro (b_w3) (And.intro (c1) (And.intro (c2) (And.intro (c3) (And.intro (c4) (And.intro (c5) (c6)))))))))))))))))))
  repeat first
    | ((with_reducible apply ends_bind); case h => first | (simp only [stp, stq]; first | done | rfl) | rfl)
    | ((with_reducible apply ends_t); case h => first | rfl | (simp only [stp, stq]; done))
    | ((with_reducible apply ends_f); case h => first | rfl | (simp only [stp, stq]; done))
  exact ends_some ⟨.inl rfl, _, rfl, rfl⟩
theorem fits_way {l : List AV} (h : ShFits [.int .i64, .int .i64, .int .i64] l) : ∃ x : Int × Int × Int, True ∧ l = [.v (.int .i64 x.1), .v (.int .i64 x.2.1), .v (.int .i64 x.2.2)] := by
  match l, h with
  | [a, b, c], h =>
    obtain ⟨a, rfl, _⟩ := fit_i64 (h.2 0 a _ rfl rfl)
    obtain ⟨b, rfl, _⟩ := fit_i64 (h.2 1 b _ rfl rfl)
    obtain ⟨c, rfl, _⟩ := fit_i64 (h.2 2 c _ rfl rfl)
    exact ⟨(a, b, c), trivial, rfl⟩
  | [], h => simp [ShFits] at h
  | [_], h => simp [ShFits] at h
  | [_, _], h => simp [ShFits] at h
  | _ :: _ :: _ :: _ :: _, h => simp [ShFits] at h
end Go.Sy
