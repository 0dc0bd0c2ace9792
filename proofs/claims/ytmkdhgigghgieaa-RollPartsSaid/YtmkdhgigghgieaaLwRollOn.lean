/-
  Layer 15: the law RollOn as the reader reads it.
-/
import Derived.Test.YtmkdhgigghgieaaPfRollA
import Derived.Test.YtmkdhgigghgieaaLwRollW
import Derived.Test.YtmkdhgigghgieaaLwRollF
namespace Go.Sy
open Go.Proofs Num Crc Seal

theorem nxtT_lt (b : List UInt8) : nxtT b < 4294967296 := by
  unfold nxtT
  split <;> omega
theorem foldP_yes (t : Nat) (p : Pt) (l : List Pt) (c : List UInt8) : foldP yes t (p :: l) c = if badP p then none else foldP yes t l (layB c t p) := rfl
theorem foldP_ok (t : Nat) (l : List Pt) (c : List UInt8) (h : ∀ p ∈ l, ¬ badP p) : ∃ d, foldP yes t l c = some d := by
  induction l generalizing c with
  | nil => exact ⟨c, rfl⟩
  | cons p l ih =>
    rw [foldP_yes, if_neg (h p (by simp))]
    exact ih _ fun q hq => h q (by simp [hq])
theorem foldP_bad (t : Nat) (l : List Pt) (c d : List UInt8) (h : foldP yes t l c = some d) : ∀ p ∈ l, ¬ badP p := by
  induction l generalizing c with
  | nil => intro p hp; cases hp
  | cons p l ih =>
    rw [foldP_yes] at h
    split at h
    · cases h
    · rename_i hb
      intro q hq
      rcases List.mem_cons.1 hq with rfl | hq
      · exact hb
      · exact ih _ h q hq
theorem foldP_app (sel : Int → Bool) (t : Nat) (l r : List Pt) (c : List UInt8) : foldP sel t (l ++ r) c = (foldP sel t l c).bind (foldP sel t r) := by
  induction l generalizing c with
  | nil => rfl
  | cons p l ih =>
    rw [List.cons_append, foldP_cons, foldP_cons]
    split
    · split
      · rfl
      · exact ih _
    · exact ih _
/-- the same but for the turn -/
def Alike (c d : List UInt8) : Prop := c = d ∨ ∃ (k t u : Nat) (q : List UInt8), mayK k ∧ t < 4294967296 ∧ u < 4294967296 ∧ q.length = 54 ∧ c = blk k t q ∧ d = blk k u q
theorem alike_ld (k : Int) (c d : List UInt8) (h : Alike c d) : ldV k c = ldV k d := by
  rcases h with rfl | ⟨j, t, u, q, hj, ht, hu, hq, rfl, rfl⟩
  · rfl
  · obtain ⟨a1, a2, a3, a4⟩ := blk_parts j t q hq hj ht
    obtain ⟨b1, b2, b3, b4⟩ := blk_parts j u q hq hj hu
    unfold ldV
    rw [a1, a2, a4, b1, b2, b4]
theorem alike_same (c d : List UInt8) (h : Alike c d) : sameV c d = true := by
  rcases h with rfl | ⟨j, t, u, q, hj, ht, hu, hq, rfl, rfl⟩
  · unfold sameV
    rw [if_pos rfl]
    split <;> simp
  · obtain ⟨a1, a2, a3, a4⟩ := blk_parts j t q hq hj ht
    obtain ⟨b1, b2, b3, b4⟩ := blk_parts j u q hq hj hu
    unfold sameV kindV
    rw [a1, a2, a4, b1, b2, b4, if_pos rfl]
    simp only [if_true]
    unfold mayK at hj
    rw [if_neg (by omega)]
    simp
theorem alike_lay (t u : Nat) (ht : t < 4294967296) (hu : u < 4294967296) (p : Pt) (hp : ¬ badP p) (hk : p.kind ≠ 0) (c d : List UInt8) (hc : c.length = 64) (h : Alike c d) : Alike (layB c t p) (layB d u p) := by
  unfold layB
  rw [if_neg hk, if_neg hk, alike_ld p.kind c d h]
  have hq := ldV_len p.kind c hc
  rw [alike_ld p.kind c d h] at hq
  unfold badP rm at hp
  rw [if_neg hk] at hp
  exact .inr ⟨_, t, u, _, by unfold mayK; omega, ht, hu, lq_len _ _ _ hq (by omega), rfl, rfl⟩
theorem alike_fold (t u : Nat) (ht : t < 4294967296) (hu : u < 4294967296) (l : List Pt) (hk : ∀ p ∈ l, p.kind ≠ 0) (c d x y : List UInt8) (hc : c.length = 64) (h : Alike c d) (h1 : foldP yes t l c = some x) (h2 : foldP yes u l d = some y) : Alike x y := by
  induction l generalizing c d with
  | nil => cases h1; cases h2; exact h
  | cons p l ih =>
    rw [foldP_yes] at h1 h2
    by_cases hb : badP p
    · rw [if_pos hb] at h1
      cases h1
    · rw [if_neg hb] at h1 h2
      exact ih (fun q hq => hk q (by simp [hq])) _ _ (layB_len c t p hc hb) (alike_lay t u ht hu p hb (hk p (by simp)) c d hc h) h1 h2
theorem on_law (b : List UInt8) (hb : b.length = 64) (l : List Pt) (k : Nat) (hk : ∀ p ∈ l, p.kind ≠ 0) (A O W : List UInt8) (h1 : foldP yes (nxtT b) l b = some A) (h2 : foldP yes (nxtT b) (l.take k) b = some O) (h3 : foldP yes (nxtT O) (l.drop k) O = some W) : sameV A W = true := by
  rw [← List.take_append_drop k l, foldP_app, h2, Option.bind_some] at h1
  exact alike_same _ _ (alike_fold _ _ (nxtT_lt b) (nxtT_lt O) _ (fun p hp => hk p (List.mem_of_mem_drop hp)) O O A W (foldP_len _ _ _ _ _ hb h2) (.inl rfl) h1 h3)

theorem len_nil : lenA Try.prog 24 (.v (.slice none 0 0)) = some (.v (.int .i64 0)) := by kernel_rfl
theorem over_nil {n : Nat} (hn : 480 ≤ n) (b : List UInt8) (hb : b.length = 64) (fv : AV) : cf (evFn cx0 ext0 (n + 1)) 27 [.agg (u8l b), .v (.slice none 0 0), fv] = some (.tup [.agg (u8l b), .v (.int .i64 0)]) := by
  have c1 := Turn_ev (n := n) (by omega) b hb
  have lB := lds hB
  have sB := sts hB
  have aB := al_a hB
  have zl6 : (zero 64).length = 64 := rfl
  unfold cf
  rw [E_roll_over]
  refine ends_cf (P := Try.prog) ?_
  unfold F_roll_over
  have stq := (And.intro (box_agg) (And.intro (aB) (And.intro (lB) (And.intro (sB) (And.intro (hb) (And.intro (zl6) (And.intro (frz_agg) (And.intro (c1) (len_nil)))))))))
  repeat first
    | ((with_reducible apply ends_bind); case h => first | (simp only [stp, stq]; first | done | rfl) | rfl)
    | ((with_reducible apply ends_t); case h => first | rfl | (simp only [stp, stq]; done))
    | ((with_reducible apply ends_f); case h => first | rfl | (simp only [stp, stq]; done))
  refine ends_loop (fun _ s => ∃ (y17 y9 y0 y1 y2 : AV) (d0 d1 d2 : List AV), s = ⟨[(19, .v (.int .i64 0)), (18, .v (.int .i64 0)), (17, y17), (9, y9), (8, .bp 2 0), (7, .v (.int .i64 0)), (6, .bp 1 0), (3, .bp 0 0), (0, y0), (1, y1), (2, y2)], [d0, d1, d2]⟩ ∧ d1 = u8l (zero 64) ∧ d2 = u8l b) 0 (by omega) ⟨_, _, _, _, _, _, _, _, rfl, rfl, rfl⟩ ?_
  rintro kk s ⟨y17, y9, y0, y1, y2, d0, d1, d2, rfl, rfl, rfl⟩
  refine L_roll_over_0_lit ?_
  unfold B_roll_over_0
  have g0 : decide ((0 : Int) < 0) = false := by decide
  have stq := (g0)
  repeat first
    | ((with_reducible apply ends_bind); case h => first | (simp only [stp, stq]; first | done | rfl) | rfl)
    | ((with_reducible apply ends_t); case h => first | rfl | (simp only [stp, stq]; done))
    | ((with_reducible apply ends_f); case h => first | rfl | (simp only [stp, stq]; done))
  refine ends_some (.inr (.inl ⟨0, rfl, X_roll_over_0_0_lit ?_⟩))
  unfold X_roll_over_0_0
  have stq := (And.intro (lB) (And.intro (sB) (And.intro (hb) (zl6))))
  repeat first
    | ((with_reducible apply ends_bind); case h => first | (simp only [stp, stq]; first | done | rfl) | rfl)
    | ((with_reducible apply ends_t); case h => first | rfl | (simp only [stp, stq]; done))
    | ((with_reducible apply ends_f); case h => first | rfl | (simp only [stp, stq]; done))
  exact ends_some (retq_ct (ld_a hB (b := b) rfl hb) (frz_agg _ _ _ _))
theorem Now_nil {n : Nat} (hn : 490 ≤ n) (b : List UInt8) (hb : b.length = 64) : cf (evFn cx0 ext0 n) 10 [.agg (u8l b), .v (.slice none 0 0)] = some (.tup [.agg (u8l b), .v (.int .i64 0)]) := by
  obtain ⟨m, rfl⟩ : ∃ m, n = m + 2 := ⟨n - 2, by omega⟩
  have c1 := over_nil (n := m) (by omega) b hb (.fn 28 [] [])
  have lB := lds hB
  have sB := sts hB
  have aB := al_a hB
  have zl6 : (zero 64).length = 64 := rfl
  unfold cf
  rw [E_roll_Now]
  refine ends_cf (P := Try.prog) ?_
  unfold F_roll_Now
  have stq := (And.intro (box_agg) (And.intro (aB) (And.intro (lB) (And.intro (sB) (And.intro (hb) (And.intro (zl6) (And.intro (frz_agg) (And.intro (frz_fn0) (c1)))))))))
  repeat first
    | ((with_reducible apply ends_bind); case h => first | (simp only [stp, stq]; first | done | rfl) | rfl)
    | ((with_reducible apply ends_t); case h => first | rfl | (simp only [stp, stq]; done))
    | ((with_reducible apply ends_f); case h => first | rfl | (simp only [stp, stq]; done))
  exact ends_some (retq_ct (ld_a hB (b := b) rfl hb) (frz_agg _ _ _ _))
theorem fa_ip (f : Bool) (p : Pt) (r : List AV) : fieldAddrA Try.prog 34 (.ip (pt f p ++ r) f) 4 = some (.ip ((pt f p).drop 4 ++ r) f) := by kernel_rfl
theorem ld_ip4 (bx : Bx) (f : Bool) (p : Pt) (r : List AV) : loadA Try.prog 3 bx (.ip ((pt f p).drop 4 ++ r) f) = some (.v (.int .i64 p.kind)) := by kernel_rfl
theorem fa_ip0 (f : Bool) (p : Pt) (r : List AV) : fieldAddrA Try.prog 34 (.ip (pt f p ++ r) f) 0 = some (.ip (pt f p ++ r) f) := by kernel_rfl
theorem ld_ip0 (bx : Bx) (f : Bool) (p : Pt) (r : List AV) : loadA Try.prog 3 bx (.ip (pt f p ++ r) f) = some (.v (.int .i64 p.id)) := by kernel_rfl
set_option maxRecDepth 100000 in
theorem on_ev (b : List UInt8) (hb : b.length = 64) (L0 : List Pt) (at_ : Int) : cf (evFn cx0 ext0 1000) 3 [.agg (u8l b), psl true L0, .v (.int .i64 at_)] = some (.v (.bool true)) := by
  have hw := works_at 999 (by omega)
  have hf := few_ev (k := 999) (by omega) true L0
  have hLl : ((L0.take 20).map few1).length ≤ 20 := by
    rw [List.length_map, List.length_take]
    omega
  have hLd : ∀ p ∈ (L0.take 20).map few1, p.data.length < 2 ^ 32 := by
    intro p hp
    obtain ⟨q, _, rfl⟩ := List.mem_map.1 hp
    show (q.data.take 70).length < _
    rw [List.length_take]
    omega
  generalize (L0.take 20).map few1 = L at *
  obtain ⟨k, hk, ha⟩ := among_ev 998 at_ (L.length + 1) (by omega) (by omega)
  have e1 : IntKind.i64.wrap ((L.length : Int) + 1) = ((L.length + 1 : Nat) : Int) := by rw [wrap64]; omega
  have ht1 : (L.take k).length ≤ 400 := by rw [List.length_take]; omega
  have ht2 : (L.drop k).length ≤ 400 := by rw [List.length_drop]; omega
  have c1 := Now_gen (n := 999) (by omega) false b hb L (by omega) hLd
  have c2 := Now_gen (n := 999) (by omega) false b hb (L.take k) ht1 (fun p hp => hLd p (List.mem_of_mem_take hp))
  have c4 := Now_nil (n := 999) (by omega) b hb
  have hOl : ((foldP yes (nxtT b) (L.take k) b).getD b).length = 64 := by
    rcases h : foldP yes (nxtT b) (L.take k) b with _ | O
    · exact hb
    · exact foldP_len _ _ _ _ _ hb h
  have c3 := Now_gen (n := 999) (by omega) false _ hOl (L.drop k) ht2 (fun p hp => hLd p (List.mem_of_mem_drop hp))
  have hov : ∀ (b : List UInt8) (R : Option (List UInt8)), overV b R = .tup [.agg (u8l (R.getD b)), .v (.int .i64 (if R.isSome then 0 else 2))] := by
    intro b R
    cases R <;> rfl
  rw [hov] at c1 c2 c3
  have lp := len_p false L
  have s1 := fun bx => (slc_pt bx false L k (by omega)).1
  have s2 := fun bx => (slc_pt bx false L k (by omega)).2
  have fp := fun bx l => frz_psl bx false l
  have fp' := fun bx l => frz_psl bx true l
  have lB := lds hB
  have sB := sts hB
  have aB := al_a hB
  have zl6 : (zero 64).length = 64 := rfl
  have eB := fun (x y : List UInt8) (hx : x.length = 64) (hy : y.length = 64) => eq_a hB (a := x) (b := y) hx hy
  have e2 := (eB b b hb hb).2
  have bb : (b == b) = true := by simp
  have z0 : ((0 : Int) != 0) = false := rfl
  have z2 : ((2 : Int) != 0) = true := rfl
  rcases hA : foldP yes (nxtT b) L b with _ | A
  · rw [hA] at c1
    replace c1 : _ = some (AV.tup [.agg (u8l b), .v (.int .i64 2)]) := c1
    generalize (foldP yes (nxtT b) (L.take k) b).getD b = O at *
    have hW : ((foldP yes (nxtT O) (L.drop k) O).getD O).length = 64 := by
      rcases h : foldP yes (nxtT O) (L.drop k) O with _ | W
      · exact hOl
      · exact foldP_len _ _ _ _ _ hOl h
    generalize (foldP yes (nxtT O) (L.drop k) O).getD O = W at *
    have e3 := (eB b b hb hb).1
    unfold cf
    rw [E_l15_RollOn]
    refine ends_cf (P := Try.prog) ?_
    unfold F_l15_RollOn
    have stq := (And.intro (box_agg) (And.intro (hw) (And.intro (hf) (And.intro (fp') (And.intro (lp) (And.intro (e1) (And.intro (ha) (And.intro (lB) (And.intro (sB) (And.intro (aB) (And.intro (hb) (And.intro (hOl) (And.intro (hW) (And.intro (zl6) (And.intro (frz_agg) (And.intro (fp) (And.intro (c1) (And.intro (c2) (And.intro (c3) (And.intro (c4) (And.intro (s1) (And.intro (s2) (And.intro (e2) (And.intro (bb) (And.intro (n_tf) (And.intro (z0) (And.intro (z2) (e3))))))))))))))))))))))))))))
    repeat first
      | ((with_reducible apply ends_bind); case h => first | (simp only [stp, stq]; first | done | rfl) | rfl)
      | ((with_reducible apply ends_t); case h => first | rfl | (simp only [stp, stq]; done))
      | ((with_reducible apply ends_f); case h => first | rfl | (simp only [stp, stq]; done))
    exact ends_some ⟨.inl rfl, _, rfl, rfl⟩
  · have hbad := foldP_bad _ _ _ _ hA
    obtain ⟨O, hO⟩ := foldP_ok (nxtT b) (L.take k) b fun p hp => hbad p (List.mem_of_mem_take hp)
    rw [hA] at c1
    rw [hO] at c2 c3 hOl
    replace hOl : O.length = 64 := hOl
    replace c1 : _ = some (AV.tup [.agg (u8l A), .v (.int .i64 0)]) := c1
    replace c2 : _ = some (AV.tup [.agg (u8l O), .v (.int .i64 0)]) := c2
    obtain ⟨W, hW⟩ := foldP_ok (nxtT O) (L.drop k) O fun p hp => hbad p (List.mem_of_mem_drop hp)
    have hs := on_law b hb L k
    replace c3 : cf (evFn cx0 ext0 999) 10 [.agg (u8l O), psl false (L.drop k)] = some (.tup [.agg (u8l ((foldP yes (nxtT O) (L.drop k) O).getD O)), .v (.int .i64 (if (foldP yes (nxtT O) (L.drop k) O).isSome then 0 else 2))]) := c3
    rw [hW] at c3
    replace c3 : _ = some (AV.tup [.agg (u8l W), .v (.int .i64 0)]) := c3
    replace hs := fun h => hs h A O W hA hO hW
    have hAl : A.length = 64 := foldP_len _ _ _ _ _ hb hA
    have hWl : W.length = 64 := foldP_len _ _ _ _ _ hOl hW
    have c5 := rSame_ev (n := 999) (by omega) A W hAl hWl
    clear hA hO hW hov
    unfold cf
    rw [E_l15_RollOn]
    refine ends_cf (P := Try.prog) ?_
    unfold F_l15_RollOn
    have stq := (And.intro (box_agg) (And.intro (hw) (And.intro (hf) (And.intro (fp') (And.intro (lp) (And.intro (e1) (And.intro (ha) (And.intro (lB) (And.intro (sB) (And.intro (aB) (And.intro (hb) (And.intro (hAl) (And.intro (hOl) (And.intro (hWl) (And.intro (zl6) (And.intro (frz_agg) (And.intro (fp) (And.intro (c1) (And.intro (c2) (And.intro (c3) (And.intro (c4) (And.intro (s1) (And.intro (s2) (And.intro (e2) (And.intro (bb) (And.intro (n_tf) (z0)))))))))))))))))))))))))))
    repeat first
      | ((with_reducible apply ends_bind); case h => first | (simp only [stp, stq]; first | done | rfl) | rfl)
      | ((with_reducible apply ends_t); case h => first | rfl | (simp only [stp, stq]; done))
      | ((with_reducible apply ends_f); case h => first | rfl | (simp only [stp, stq]; done))
    refine ends_loop (fun kk s => ∃ (j : Nat) (y69 y59 y15 y14 y13 y11 y10 y9 y7 y18 y6 y3 y0 y1 y2 : AV) (d0 d1 d2 d3 d4 : List AV), s = ⟨[(16, .v (.int .i64 j)), (69, y69), (59, y59), (15, y15), (14, y14), (13, y13), (12, .bp 3 0), (11, y11), (10, y10), (9, y9), (8, .bp 1 0), (7, y7), (1, psl false L), (18, y18), (6, y6), (3, y3), (0, y0), (1, y1), (2, y2)], [d0, d1, d2, d3, d4]⟩ ∧ d1 = u8l A ∧ d3 = u8l W ∧ (∀ p ∈ L.take j, p.kind ≠ 0) ∧ j + kk = L.length) L.length (by omega) ⟨0, _, _, _, _, _, _, _, _, _, _, _, _, _, _, _, _, _, _, _, _, rfl, rfl, rfl, by simp, by omega⟩ ?_
    rintro kk s ⟨j, y69, y59, y15, y14, y13, y11, y10, y9, y7, y18, y6, y3, y0, y1, y2, d0, d1, d2, d3, d4, rfl, rfl, rfl, hj, hkk⟩
    refine L_l15_RollOn_0_lit ?_
    unfold B_l15_RollOn_0
    by_cases hx : j < L.length
    · have g0 : decide ((j : Int) < (L.length : Int)) = true := decide_eq_true (by omega)
      have i0 := idx_p false L j hx
      have f0 := fa_ip false L[j] (flatP false (L.drop (j + 1)))
      have l0 := fun bx => ld_ip4 bx false L[j] (flatP false (L.drop (j + 1)))
      have e3 : IntKind.i64.wrap ((j : Int) + 1) = ((j + 1 : Nat) : Int) := by rw [wrap64]; omega
      by_cases hz : L[j].kind = 0
      · have z : (L[j].kind == 0) = true := by simp [hz]
        have stq := (And.intro (lp) (And.intro (g0) (And.intro (i0) (And.intro (f0) (And.intro (l0) (z))))))
        repeat first
          | ((with_reducible apply ends_bind); case h => first | (simp only [stp, stq]; first | done | rfl) | rfl)
          | ((with_reducible apply ends_t); case h => first | rfl | (simp only [stp, stq]; done))
          | ((with_reducible apply ends_f); case h => first | rfl | (simp only [stp, stq]; done))
        exact ends_some (.inr (.inr ⟨rfl, .inl rfl, _, rfl, rfl⟩))
      · have z : (L[j].kind == 0) = false := by simp [hz]
        have stq := (And.intro (lp) (And.intro (g0) (And.intro (i0) (And.intro (f0) (And.intro (l0) (And.intro (z) (e3)))))))
        repeat first
          | ((with_reducible apply ends_bind); case h => first | (simp only [stp, stq]; first | done | rfl) | rfl)
          | ((with_reducible apply ends_t); case h => first | rfl | (simp only [stp, stq]; done))
          | ((with_reducible apply ends_f); case h => first | rfl | (simp only [stp, stq]; done))
        refine ends_some (.inl ⟨rfl, kk - 1, by omega, j + 1, _, _, _, _, _, _, _, _, _, _, _, _, _, _, _, _, _, _, _, _, by first | rfl | (rw [← e3]; rfl), u8l_keep _ _, u8l_keep _ _, ?_, by omega⟩)
        intro p hp
        rw [List.take_succ_eq_append_getElem hx, List.mem_append] at hp
        rcases hp with hp | hp
        · exact hj p hp
        · rw [List.mem_singleton] at hp
          subst hp
          exact hz
    · have g0 : decide ((j : Int) < (L.length : Int)) = false := decide_eq_false (by omega)
      rw [hs (fun p hp => hj p (by rw [List.take_of_length_le (by omega)]; exact hp))] at c5
      have stq := (And.intro (lp) (g0))
      repeat first
        | ((with_reducible apply ends_bind); case h => first | (simp only [stp, stq]; first | done | rfl) | rfl)
        | ((with_reducible apply ends_t); case h => first | rfl | (simp only [stp, stq]; done))
        | ((with_reducible apply ends_f); case h => first | rfl | (simp only [stp, stq]; done))
      refine ends_some (.inr (.inl ⟨0, rfl, X_l15_RollOn_0_0_lit ?_⟩))
      unfold X_l15_RollOn_0_0
      have stq := (And.intro (lB) (And.intro (hAl) (And.intro (hWl) (And.intro (frz_agg) (c5)))))
      repeat first
        | ((with_reducible apply ends_bind); case h => first | (simp only [stp, stq]; first | done | rfl) | rfl)
        | ((with_reducible apply ends_t); case h => first | rfl | (simp only [stp, stq]; done))
        | ((with_reducible apply ends_f); case h => first | rfl | (simp only [stp, stq]; done))
      exact ends_some ⟨.inl rfl, _, rfl, rfl⟩
end Go.Sy
