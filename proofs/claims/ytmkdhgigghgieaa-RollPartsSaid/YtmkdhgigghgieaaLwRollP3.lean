/-
  Layer 15: the law RollParts as the reader reads it.
-/
import Derived.Test.YtmkdhgigghgieaaLwRollP2
namespace Go.Sy
open Go.Proofs Num Crc Seal

theorem among40 (n : Nat) (x : Int) : ∃ a : Nat, a < 40 ∧ cf (evFn cx0 ext0 (n + 1)) 9 [.v (.int .i64 x), .v (.int .i64 40)] = some (.v (.int .i64 a)) := by
  obtain ⟨k, hk, h⟩ := among_ev n x 40 (by omega) (by omega)
  exact ⟨k, hk, h⟩
theorem idsD_t (D : List (Pt × Bool)) (p : Pt) : idsD (D ++ [(p, true)]) = idsD D ++ [p.id] := by
  unfold idsD
  rw [chosen_t, List.map_append]
  rfl
theorem idsD_f (D : List (Pt × Bool)) (p : Pt) : idsD (D ++ [(p, false)]) = idsD D := by
  unfold idsD
  rw [chosen_f]
theorem il_app (l : List Int) (v : Int) : il l ++ [.v (.int .i64 v)] = il (l ++ [v]) := by simp [il]
theorem chosen_le (D : List (Pt × Bool)) : (chosen D).length ≤ D.length := by
  unfold chosen
  rw [List.length_map]
  exact List.length_filter_le _ _
set_option maxRecDepth 100000 in
theorem parts_ev (b : List UInt8) (hb : b.length = 64) (kd : UInt8) (L0 : List Pt) (wh : List Bool) (hwh : wh.length ≤ maxLen) : cf (evFn cx0 ext0 1000) 6 [.agg (u8l b), u8 kd, psl true L0, .sl wh.length (bll wh) true] = some (.v (.bool true)) := by
  have hw := works_at 999 (by omega)
  have hf := fun bx => few_call 999 (by omega) bx L0
  have hLl : ((L0.take 20).map few1).length ≤ 20 := by
    rw [List.length_map, List.length_take]
    omega
  generalize (L0.take 20).map few1 = L at *
  have md := fun bx args => md_p (evFn cx0 ext0 999) bx args
  have k1 : (kd.toNat : Int).tmod 6 = ((kd.toNat % 6 : Nat) : Int) := by rw [Int.tmod_eq_emod_of_nonneg (by omega)]; omega
  have k2 : IntKind.i64.wrap ((kd.toNat % 6 : Nat) : Int) = ((kd.toNat % 6 : Nat) : Int) := by rw [wrap64]; omega
  have hk : kd.toNat % 6 < 6 := by omega
  generalize hk6 : kd.toNat % 6 = k6 at *
  have cv : ∀ bx, convA Try.prog bx 5 3 (.v (.int .u8 (k6 : Int))) = some (.v (.int .i64 k6), bx) := by
    intro bx
    rw [cv_8_64, k2]
  have k3 : IntKind.i64.wrap (1 + (k6 : Int)) = ((1 + k6 : Nat) : Int) := by rw [wrap64]; omega
  have hm : mayK ((1 + k6 : Nat) : Int) := by unfold mayK; omega
  generalize hkk : ((1 + k6 : Nat) : Int) = K at *
  have lB := lds hB
  have sB := sts hB
  have aB := al_a hB
  have zl6 : (zero 64).length = 64 := rfl
  have b0 := bs_p0
  have bi0 := bs_i0
  have lp := len_pb L.length
  have lw := len_bl wh
  have fa := fun o => fa_po 1 o
  unfold cf
  rw [E_l15_RollParts]
  refine ends_cf (P := Try.prog) ?_
  unfold F_l15_RollParts
  have stq := (And.intro (box_agg) (And.intro (md) (And.intro (hw) (And.intro (n_tf) (And.intro (hf) (And.intro (b0) (bi0)))))))
  repeat first
    | ((with_reducible apply ends_bind); case h => first | (simp only [stp, stq]; first | done | rfl) | rfl)
    | ((with_reducible apply ends_t); case h => first | rfl | (simp only [stp, stq]; done))
    | ((with_reducible apply ends_f); case h => first | rfl | (simp only [stp, stq]; done))
  refine ends_loop (fun d s => ∃ (i Mn Kn : Nat) (D : List (Pt × Bool)) (y24 y8 y0 y2 : AV) (d0 d1 d2 d3 : List AV), s = ⟨[(11, .v (.int .i64 i)), (10, .bsl 3 0 Kn 1), (9, .bsl 2 0 Mn 9), (2, .bsl 1 0 L.length 9), (24, y24), (8, y8), (4, .bp 0 0), (0, y0), (1, u8 kd), (2, y2), (3, .sl wh.length (bll wh) true)], [d0, d1, d2, d3]⟩ ∧
    d0 = u8l b ∧ d1 = flatP false (D.map (·.1) ++ L.drop i) ∧ d2 = flatP false (chosen D) ∧ d3 = il (idsD D) ∧ Mn = (chosen D).length ∧ Kn = (idsD D).length ∧ D.length = i ∧ Order K D ∧ Numb D ∧ i + d = L.length) L.length (by omega) ⟨0, 0, 0, [], _, _, _, _, _, _, _, _, rfl, rfl, rfl, rfl, rfl, rfl, rfl, rfl, .nil, fun j e h => by simp at h, by omega⟩ ?_
  rintro d s ⟨i, Mn, Kn, D, y24, y8, y0, y2, d0, d1, d2, d3, rfl, rfl, rfl, rfl, rfl, hMn, hKn, hDl, hD, hN, hd⟩
  refine L_l15_RollParts_0_lit ?_
  unfold B_l15_RollParts_0
  by_cases hx : i < L.length
  · have g0 : decide ((i : Int) < (L.length : Int)) = true := decide_eq_true (by omega)
    have e3 : IntKind.i64.wrap ((i : Int) + 1) = ((i + 1 : Nat) : Int) := by rw [wrap64]; omega
    have e3' : IntKind.i64.wrap ((i : Int) + 1) = (i : Int) + 1 := by rw [wrap64]; omega
    have x1 := ix_pb L.length i hx
    rw [List.drop_eq_getElem_cons hx]
    generalize hY : L.drop (i + 1) = Y
    have hYl : Y.length + i + 1 = L.length := by rw [← hY, List.length_drop]; omega
    generalize L[i] = p0
    have hX : (D.map (·.1)).length = i := by rw [List.length_map]; exact hDl
    have s1 := fun C E => st_kind (u8l b) C E (D.map (·.1)) Y p0 K i hX
    have s2 := fun C E => st_id (u8l b) C E (D.map (·.1)) Y { p0 with kind := K } ((i : Int) + 1) i hX
    have hi : ∀ q : Pt, (D.map (·.1) ++ q :: Y)[i]? = some q := fun q => by
      rw [List.getElem?_append_right (by omega), hX, Nat.sub_self]
      rfl
    have a1 := fun C E => ld_dat (u8l b) C E _ i _ (hi { p0 with kind := K, id := (i : Int) + 1 })
    have n1 : lenA Try.prog 31 (byt false p0.data) = some (.v (.int .i64 (p0.data.length : Int))) := len_b _ _
    have sb := fun bx => slc_min t8 (P := Try.prog) bx p0.data false .i64 8
    have e8 : ((8 : Nat) : Int) = 8 := rfl
    rw [e8] at sb
    have s3 := fun C E => st_dat (u8l b) C E (D.map (·.1)) Y { p0 with kind := K, id := (i : Int) + 1 } (p0.data.take 8) i hX
    have o1 := fun C E => ld_off (u8l b) C E _ i _ (hi { p0 with kind := K, id := (i : Int) + 1, data := p0.data.take 8 })
    obtain ⟨a, ha, hA⟩ := among40 998 p0.off
    have s4 := fun C E => st_off (u8l b) C E (D.map (·.1)) Y { p0 with kind := K, id := (i : Int) + 1, data := p0.data.take 8 } a i hX
    have lP := fun C E => ld_pat (u8l b) C E _ i _ (hi { p0 with kind := K, id := (i : Int) + 1, data := p0.data.take 8, off := (a : Int) })
    generalize hp : ({ p0 with kind := K, id := (i : Int) + 1, data := p0.data.take 8, off := (a : Int) } : Pt) = p at *
    have hid : p.id = (D.length : Int) + 1 := by rw [← hp, hDl]
    have hF : Fine K p := by
      rw [← hp]
      exact ⟨rfl, ⟨by show (0 : Int) ≤ (a : Int); omega, by show (a : Int) < 40; omega⟩, by show (p0.data.take 8).length ≤ 8; rw [List.length_take]; omega⟩
    have hcl := chosen_le D
    have hIl : (idsD D).length ≤ D.length := by unfold idsD; rw [List.length_map]; exact hcl
    have inner := fun (ok0 : Bool) (y32 y24 y8 y0 y2 : AV) (Q : Ex → S → Prop) => inner_ev b K D hD hN p hF Y (by omega) L.length (by omega) ok0 y32 y24 y8 y0 y2 (.int .u8 kd.toNat) wh.length (bll wh) i Mn Kn hDl.symm hMn hKn (Q := Q)
    -- behind the inner loop
    have after : ∀ (ok : Bool) (y88 y13 y32 y24 y8 y0 y2 : AV), (ok = true → ∀ r ∈ left D, apart2 p r) →
        Ends (X_l15_RollParts_1_0 (evFn cx0 ext0 999) 999 0 y88 y13 (.v (.bool ok)) y32 (.v (.int .i64 i)) (.bsl 3 0 Kn 1) (.bsl 2 0 Mn 9) (.bsl 1 0 L.length 9) y24 y8 (.bp 0 0) y0 (u8 kd) y2 (.sl wh.length (bll wh) true) [u8l b, flatP false (D.map (·.1) ++ p :: Y), flatP false (chosen D), il (idsD D)])
          fun e s' => e = .normal ∧ ∃ (k' : Nat), k' < d ∧ ∃ (i Mn Kn : Nat) (D : List (Pt × Bool)) (y24 y8 y0 y2 : AV) (d0 d1 d2 d3 : List AV), (⟨[(11, (get s'.env 11).keep (· < 4)), (10, (get s'.env 10).keep (· < 4)), (9, (get s'.env 9).keep (· < 4)), (2, (get s'.env 2).keep (· < 4)), (24, (get s'.env 24).keep (· < 4)), (8, (get s'.env 8).keep (· < 4)), (4, (get s'.env 4).keep (· < 4)), (0, (get s'.env 0).keep (· < 4)), (1, (get s'.env 1).keep (· < 4)), (2, (get s'.env 2).keep (· < 4)), (3, (get s'.env 3).keep (· < 4))], (s'.bx.take 4).map fun l => l.map (AV.keep (· < 4))⟩ : S) = ⟨[(11, .v (.int .i64 i)), (10, .bsl 3 0 Kn 1), (9, .bsl 2 0 Mn 9), (2, .bsl 1 0 L.length 9), (24, y24), (8, y8), (4, .bp 0 0), (0, y0), (1, u8 kd), (2, y2), (3, .sl wh.length (bll wh) true)], [d0, d1, d2, d3]⟩ ∧
            d0 = u8l b ∧ d1 = flatP false (D.map (·.1) ++ L.drop i) ∧ d2 = flatP false (chosen D) ∧ d3 = il (idsD D) ∧ Mn = (chosen D).length ∧ Kn = (idsD D).length ∧ D.length = i ∧ Order K D ∧ Numb D ∧ i + k' = L.length := by
      intro ok y88 y13 y32 y24 y8 y0 y2 hok
      have hpy : D.map (·.1) ++ p :: Y = (D.map (·.1) ++ [p]) ++ L.drop (i + 1) := by rw [hY, List.append_assoc]; rfl
      unfold X_l15_RollParts_1_0
      cases ok
      · skip
        have stq := (e3)
        repeat first
          | ((with_reducible apply ends_bind); case h => first | (simp only [stp, stq]; first | done | rfl) | rfl)
          | ((with_reducible apply ends_t); case h => first | rfl | (simp only [stp, stq]; done))
          | ((with_reducible apply ends_f); case h => first | rfl | (simp only [stp, stq]; done))
        refine ends_some ⟨rfl, d - 1, by omega, i + 1, Mn, Kn, D ++ [(p, false)], _, _, _, _, _, _, _, _, by first | rfl | (rw [← e3]; rfl), u8l_keep _ _, ?_, ?_, ?_, by rw [chosen_f]; exact hMn, by rw [idsD_f]; exact hKn, by rw [List.length_append, hDl]; rfl, .leave D p hD hF, numb_snoc D hN p false hid, by omega⟩
        · rw [List.map_append, hpy]
          exact flatP_keep _ _ _
        · rw [chosen_f]
          exact flatP_keep _ _ _
        · rw [idsD_f]
          exact il_keep _ _
      · have b1 := bs_p1
        have ap := app_pg 0 [u8l b, flatP false (D.map (·.1) ++ p :: Y), flatP false (chosen D), il (idsD D), pt false p] 2 4 (chosen D) p 9 rfl rfl (by omega) (.inl rfl) (by omega)
        rw [← hMn] at ap
        simp only [List.map_cons, List.map_nil, u8l_keep, flatP_keep, il_keep, pt_keep, List.set_cons_succ, List.set_cons_zero] at ap
        have b2 := fun bx => bs_i1 bx ((i : Int) + 1)
        have ap2 := appV1 ti 0 [u8l b, flatP false (D.map (·.1) ++ p :: Y), flatP false (chosen D ++ [p]), il (idsD D), pt false p, [.v (.int .i64 ((i : Int) + 1))]] (.bsl 5 0 1 1) 3 (il (idsD D)) [.v (.int .i64 ((i : Int) + 1))] Kn rfl (by omega) rfl (by show 1 < 2 ^ 32; omega) (by rw [il_len]; omega) (by rw [il_len]; exact hKn)
        rw [il_app] at ap2
        have kv : [AV.v (.int .i64 ((i : Int) + 1))].map (AV.keep (· != 3)) = [AV.v (.int .i64 ((i : Int) + 1))] := rfl
        simp only [List.map_cons, List.map_nil, u8l_keep, flatP_keep, il_keep, pt_keep, AV.keep, List.set_cons_succ, List.set_cons_zero] at ap2
        rw [il_len, ← hKn] at ap2
        have q1 : ∀ (q : Nat → Bool) (y : Value), AV.keep q (.v y) = .v y := fun _ _ => rfl
        have q2 : AV.keep (fun x => x != 2) (.bsl 3 0 Kn 1) = .bsl 3 0 Kn 1 := rfl
        have stq := (And.intro (x1) (And.intro (lP) (And.intro (b1) (And.intro (ap) (And.intro (q1) (And.intro (q2) (And.intro (e3') (And.intro (b2) (ap2)))))))))
        repeat first
          | ((with_reducible apply ends_bind); case h => first | (simp only [stp, stq]; first | done | rfl) | rfl)
          | ((with_reducible apply ends_t); case h => first | rfl | (simp only [stp, stq]; done))
          | ((with_reducible apply ends_f); case h => first | rfl | (simp only [stp, stq]; done))
        refine ends_some ⟨rfl, d - 1, by omega, i + 1, Mn + 1, Kn + 1, D ++ [(p, true)], _, _, _, _, _, _, _, _, by first | rfl | (rw [← e3]; rfl) | (rw [← e3, e3']; rfl), u8l_keep _ _, ?_, ?_, ?_, by rw [chosen_t, List.length_append, ← hMn]; rfl, by rw [idsD_t, List.length_append, ← hKn]; rfl, by rw [List.length_append, hDl]; rfl, .take D p hD hF (hok rfl), numb_snoc D hN p true hid, by omega⟩
        · rw [List.map_append, hpy]
          exact flatP_keep _ _ _
        · rw [chosen_t]
          exact flatP_keep _ _ _
        · rw [idsD_t, hid, hDl]
          exact il_keep _ _
    by_cases hi2 : i < wh.length
    · have g1 : decide ((i : Int) < (wh.length : Int)) = true := decide_eq_true (by omega)
      have iw := idx_bl wh i hi2
      have lwb := fun bx => ld_bl bx wh[i] (bll (wh.drop (i + 1)))
      have stq := (And.intro (lp) (And.intro (g0) (And.intro (k1) (And.intro (cv) (And.intro (k3) (And.intro (hkk) (And.intro (e3') (And.intro (x1) (And.intro (fa) (And.intro (s1) (And.intro (s2) (And.intro (a1) (And.intro (n1) (And.intro (sb) (And.intro (s3) (And.intro (o1) (And.intro (md) (And.intro (hA) (And.intro (s4) (And.intro (lw) (And.intro (g1) (And.intro (iw) (lwb)))))))))))))))))))))))
      repeat first
        | ((with_reducible apply ends_bind); case h => first | (simp only [stp, stq]; first | done | rfl) | rfl)
        | ((with_reducible apply ends_t); case h => first | rfl | (simp only [stp, stq]; done))
        | ((with_reducible apply ends_f); case h => first | rfl | (simp only [stp, stq]; done))
      exact inner _ _ _ _ _ _ _ (fun ok y88 y13 y32 y24 y8 y0 y2 hok => (after ok y88 y13 y32 y24 y8 y0 y2 hok).mono fun e s' h => .inl h)
    · have g1 : decide ((i : Int) < (wh.length : Int)) = false := decide_eq_false (by omega)
      have stq := (And.intro (lp) (And.intro (g0) (And.intro (k1) (And.intro (cv) (And.intro (k3) (And.intro (hkk) (And.intro (e3') (And.intro (x1) (And.intro (fa) (And.intro (s1) (And.intro (s2) (And.intro (a1) (And.intro (n1) (And.intro (sb) (And.intro (s3) (And.intro (o1) (And.intro (md) (And.intro (hA) (And.intro (s4) (And.intro (lw) (g1)))))))))))))))))))))
      repeat first
        | ((with_reducible apply ends_bind); case h => first | (simp only [stp, stq]; first | done | rfl) | rfl)
        | ((with_reducible apply ends_t); case h => first | rfl | (simp only [stp, stq]; done))
        | ((with_reducible apply ends_f); case h => first | rfl | (simp only [stp, stq]; done))
      exact inner _ _ _ _ _ _ _ (fun ok y88 y13 y32 y24 y8 y0 y2 hok => (after ok y88 y13 y32 y24 y8 y0 y2 hok).mono fun e s' h => .inl h)
  · have g0 : decide ((i : Int) < (L.length : Int)) = false := decide_eq_false (by omega)
    have hcl := chosen_le D
    have hIl : (idsD D).length ≤ D.length := by unfold idsD; rw [List.length_map]; exact hcl
    rw [List.drop_eq_nil_of_le (by omega), List.append_nil]
    obtain ⟨all, one, two, r1, r2, r3, r4⟩ := parts_law K hm D hD b hb
    have hfine : ∀ p : Pt, Fine K p → p.data.length < 2 ^ 32 := fun p h => by have := h.data; omega
    have hAl : (D.map (·.1)).length = D.length := List.length_map _
    have l1 := foldP_len _ _ _ _ _ hb r1
    have l2 := foldP_len _ _ _ _ _ hb r2
    have l3 := foldP_len _ _ _ _ _ l2 r3
    have c1 := Now_gen (n := 999) (by omega) true b hb (D.map (·.1)) (by omega) (fun p hp => hfine p (hD.all p hp))
    have c2 := Some_gen (n := 999) (by omega) true true b hb (D.map (·.1)) (by omega) (fun p hp => hfine p (hD.all p hp)) (idsD D) (by omega) (by omega)
    rw [← foldP_filter, so_D D hN] at c2
    have c3 := Without_ev (n := 999) true (D.map (·.1)) (by omega) (idsD D) true (by omega) (by omega)
    rw [wo_D D hN] at c3
    have hll : (left D).length ≤ D.length := by
      unfold left
      rw [List.length_map]
      exact List.length_filter_le _ _
    have c4 := Now_gen (n := 999) (by omega) false one l2 (left D) (by omega) (fun p hp => hfine p (hD.left p hp))
    have c5 := Now_gen (n := 999) (by omega) true b hb (chosen D) (by omega) (fun p hp => hfine p (hD.chosen p hp))
    rw [r1] at c1
    rw [r2] at c2 c5
    rw [r3] at c4
    unfold overV at c1 c2 c4 c5
    have c6 := rSame_ev (n := 999) (by omega) all two l1 l3
    rw [r4] at c6
    have f1 := fun B r => frz_p1 B (D.map (·.1)) r
    have f2 := fun B C r => frz_p2 B C (chosen D) r
    have f3 := fun B C E r => frz_i3 B C E (idsD D) r
    have f4 := fun bx => frz_psl bx false (left D)
    rw [hAl, show D.length = L.length by omega] at f1
    rw [← hMn] at f2
    rw [← hKn] at f3
    have e1 := (eq_a hB (P := Try.prog) (a := one) (b := one) l2 l2).1
    have bb : (one == one) = true := by simp
    have stq := (And.intro (lp) (g0))
    repeat first
      | ((with_reducible apply ends_bind); case h => first | (simp only [stp, stq]; first | done | rfl) | rfl)
      | ((with_reducible apply ends_t); case h => first | rfl | (simp only [stp, stq]; done))
      | ((with_reducible apply ends_f); case h => first | rfl | (simp only [stp, stq]; done))
    refine ends_some (.inr (.inl ⟨0, rfl, X_l15_RollParts_0_0_lit ?_⟩))
    unfold X_l15_RollParts_0_0
    have stq := (And.intro (lB) (And.intro (sB) (And.intro (aB) (And.intro (hb) (And.intro (l1) (And.intro (l2) (And.intro (l3) (And.intro (zl6) (And.intro (frz_agg) (And.intro (md) (And.intro (f1) (And.intro (f2) (And.intro (f3) (And.intro (f4) (And.intro (c1) (And.intro (c2) (And.intro (c3) (And.intro (c4) (And.intro (c5) (And.intro (c6) (And.intro (e1) (bb))))))))))))))))))))))
    repeat first
      | ((with_reducible apply ends_bind); case h => first | (simp only [stp, stq]; first | done | rfl) | rfl)
      | ((with_reducible apply ends_t); case h => first | rfl | (simp only [stp, stq]; done))
      | ((with_reducible apply ends_f); case h => first | rfl | (simp only [stp, stq]; done))
    exact ends_some ⟨.inl rfl, _, rfl, rfl⟩
end Go.Sy
