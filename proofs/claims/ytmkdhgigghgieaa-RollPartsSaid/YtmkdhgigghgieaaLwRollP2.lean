/-
  Layer 15: the law RollParts as the reader reads it.
-/
import Derived.Test.YtmkdhgigghgieaaLwRollP
namespace Go.Sy
open Go.Proofs Num Crc Seal

theorem md_p (E : FnA) (bx : Bx) (args : List AV) :
    callA E md_l15_RollParts bx 7 args = (cf E 7 (args.map (frz bx true 6))).map (fun r => (r, bx)) ∧
    callA E md_l15_RollParts bx 9 args = (cf E 9 (args.map (frz bx true 6))).map (fun r => (r, bx)) ∧
    callA E md_l15_RollParts bx 24 args = (cf E 24 (args.map (frz bx true 6))).map (fun r => (r, bx)) ∧
    callA E md_l15_RollParts bx 10 args = (cf E 10 (args.map (frz bx true 6))).map (fun r => (r, bx)) ∧
    callA E md_l15_RollParts bx 18 args = (cf E 18 (args.map (frz bx true 6))).map (fun r => (r, bx)) ∧
    callA E md_l15_RollParts bx 21 args = (cf E 21 (args.map (frz bx true 6))).map (fun r => (r, bx)) ∧
    callA E md_l15_RollParts bx 11 args = (cf E 11 (args.map (frz bx true 6))).map (fun r => (r, bx)) :=
  ⟨callA_frozen rfl bx args, callA_frozen rfl bx args, callA_frozen rfl bx args, callA_frozen rfl bx args, callA_frozen rfl bx args, callA_frozen rfl bx args, callA_frozen rfl bx args⟩

/-- the loop over the patches ahead -/
theorem inner_ev (b : List UInt8) (K : Int) (D : List (Pt × Bool)) (hD : Order K D) (hN : Numb D) (p : Pt) (hp : Fine K p) (Y : List Pt) (hl : D.length < 100) (N : Nat) (hNl : N = D.length + 1 + Y.length) (ok0 : Bool) (y32 y24 y8 y0 y2 : AV) (v1 : Value) (wn : Nat) (wl : List AV) (i Mn Kn : Nat) (hi : i = D.length) (hM : Mn = (chosen D).length) (hK : Kn = (idsD D).length)
    {Q : Ex → S → Prop}
    (hQ : ∀ (ok : Bool) (y88 y13 y32 y24 y8 y0 y2 : AV), (ok = true → ∀ r ∈ left D, apart2 p r) → Ends (X_l15_RollParts_1_0 (evFn cx0 ext0 999) 999 0 y88 y13 (.v (.bool ok)) y32 (.v (.int .i64 i)) (.bsl 3 0 Kn 1) (.bsl 2 0 Mn 9) (.bsl 1 0 N 9) y24 y8 (.bp 0 0) y0 (.v v1) y2 (.sl wn wl true) [u8l b, flatP false (D.map (·.1) ++ p :: Y), flatP false (chosen D), il (idsD D)]) Q) :
    Ends (exitA (iter ⟨[(13, .v (.int .i64 0)), (12, .v (.bool ok0)), (32, y32), (11, .v (.int .i64 i)), (10, .bsl 3 0 Kn 1), (9, .bsl 2 0 Mn 9), (2, .bsl 1 0 N 9), (24, y24), (8, y8), (4, .bp 0 0), (0, y0), (1, .v v1), (2, y2), (3, .sl wn wl true)], [u8l b, flatP false (D.map (·.1) ++ p :: Y), flatP false (chosen D), il (idsD D)]⟩ (L_l15_RollParts_1 (evFn cx0 ext0 999) 999 0) 999
      ⟨[(13, .v (.int .i64 0)), (12, .v (.bool ok0)), (32, y32), (11, .v (.int .i64 i)), (10, .bsl 3 0 Kn 1), (9, .bsl 2 0 Mn 9), (2, .bsl 1 0 N 9), (24, y24), (8, y8), (4, .bp 0 0), (0, y0), (1, .v v1), (2, y2), (3, .sl wn wl true)], [u8l b, flatP false (D.map (·.1) ++ p :: Y), flatP false (chosen D), il (idsD D)]⟩)
      (K_l15_RollParts_1 (evFn cx0 ext0 999) 999 0) (X_l15_RollParts_1 (evFn cx0 ext0 999) 999 0)) Q := by
  refine ends_loop (fun d s => ∃ (k : Nat) (ok : Bool) (y32 y24 y8 y0 y2 : AV) (d0 d1 d2 d3 : List AV), s = ⟨[(13, .v (.int .i64 k)), (12, .v (.bool ok)), (32, y32), (11, .v (.int .i64 i)), (10, .bsl 3 0 Kn 1), (9, .bsl 2 0 Mn 9), (2, .bsl 1 0 N 9), (24, y24), (8, y8), (4, .bp 0 0), (0, y0), (1, .v v1), (2, y2), (3, .sl wn wl true)], [d0, d1, d2, d3]⟩ ∧
    d0 = u8l b ∧ d1 = flatP false (D.map (·.1) ++ p :: Y) ∧ d2 = flatP false (chosen D) ∧ d3 = il (idsD D) ∧ (ok = true → ∀ (j : Nat) (e : Pt × Bool), j < k → D[j]? = some e → e.2 = false → apart2 p e.1) ∧ k + d = i) i (by omega) ⟨0, ok0, _, _, _, _, _, _, _, _, _, rfl, rfl, rfl, rfl, rfl, fun _ j e hj => by omega, by omega⟩ ?_
  rintro d s ⟨k, ok, y32, y24, y8, y0, y2, d0, d1, d2, d3, rfl, rfl, rfl, rfl, rfl, hok, hd⟩
  refine L_l15_RollParts_1_lit ?_
  unfold B_l15_RollParts_1
  by_cases hx : k < i
  · have g0 : decide ((k : Int) < (i : Int)) = true := decide_eq_true (by omega)
    have e3 : IntKind.i64.wrap ((k : Int) + 1) = ((k + 1 : Nat) : Int) := by rw [wrap64]; omega
    have e3' : IntKind.i64.wrap ((k : Int) + 1) = (k : Int) + 1 := by rw [wrap64]; omega
    obtain ⟨e, he⟩ : ∃ e, D[k]? = some e := ⟨_, List.getElem?_eq_getElem (by omega)⟩
    have hid := ids_has D hN k e he
    have hIl : (idsD D).length ≤ D.length := by
      unfold idsD chosen
      rw [List.length_map, List.length_map]
      exact List.length_filter_le _ _
    have c1 := hasInt_ev (n := 999) true (idsD D) ((k : Int) + 1) (by omega) (by omega)
    rw [hid] at c1
    have fi := fun B C E r => frz_i3 B C E (idsD D) r
    rw [← hK] at fi
    have md := fun bx args => md_p (evFn cx0 ext0 999) bx args
    have hsn : ∀ (ok' : Bool), (ok' = true → ok = true ∧ (e.2 = false → apart2 p e.1)) → (ok' = true → ∀ (j : Nat) (e : Pt × Bool), j < k + 1 → D[j]? = some e → e.2 = false → apart2 p e.1) := by
      intro ok' h1 h2 j e' hj he' h3
      by_cases hjk : j = k
      · subst hjk
        rw [he] at he'
        cases he'
        exact (h1 h2).2 h3
      · exact hok (h1 h2).1 j e' (by omega) he' h3
    have keep : ∀ q : Nat → Bool, (il (idsD D)).map (AV.keep q) = il (idsD D) := fun q => il_keep q _
    rcases hc : e.2
    · rw [hc] at c1
      have x0 := ix_pb N k (by omega)
      have x1 := ix_pb N i (by omega)
      have fa := fun o => fa_po 1 o
      have hk1 : (D.map (·.1) ++ p :: Y)[k]? = some e.1 := by
        rw [List.getElem?_append_left (by rw [List.length_map]; omega), List.getElem?_map, he]
        rfl
      have hi1 : (D.map (·.1) ++ p :: Y)[i]? = some p := by
        rw [List.getElem?_append_right (by rw [List.length_map]; omega), List.length_map, hi, Nat.sub_self]
        rfl
      have o0 := ld_off (u8l b) (flatP false (chosen D)) (il (idsD D)) _ k e.1 hk1
      have o1 := ld_off (u8l b) (flatP false (chosen D)) (il (idsD D)) _ i p hi1
      have a0 := ld_dat (u8l b) (flatP false (chosen D)) (il (idsD D)) _ k e.1 hk1
      have a1 := ld_dat (u8l b) (flatP false (chosen D)) (il (idsD D)) _ i p hi1
      have n0 : lenA Try.prog 31 (byt false e.1.data) = some (.v (.int .i64 (e.1.data.length : Int))) := len_b _ _
      have n1 : lenA Try.prog 31 (byt false p.data) = some (.v (.int .i64 (p.data.length : Int))) := len_b _ _
      have fe := hD.fine e (List.mem_of_getElem? he)
      have f1 := fe.off
      have f2 := fe.data
      have f3 := hp.off
      have f4 := hp.data
      have w0 : IntKind.i64.wrap (p.off + (p.data.length : Int)) = p.off + (p.data.length : Int) := by rw [wrap64]; omega
      have w1 : IntKind.i64.wrap (e.1.off + (e.1.data.length : Int)) = e.1.off + (e.1.data.length : Int) := by rw [wrap64]; omega
      by_cases m1 : e.1.off < p.off + (p.data.length : Int)
      · have q1 : decide (e.1.off < p.off + (p.data.length : Int)) = true := decide_eq_true m1
        by_cases m2 : p.off < e.1.off + (e.1.data.length : Int)
        · have q2 : decide (p.off < e.1.off + (e.1.data.length : Int)) = true := decide_eq_true m2
          have stq := (And.intro (g0) (And.intro (e3') (And.intro (md) (And.intro (fi) (And.intro (c1) (And.intro (n_ft) (And.intro (x0) (And.intro (x1) (And.intro (fa) (And.intro (o0) (And.intro (o1) (And.intro (a0) (And.intro (a1) (And.intro (n0) (And.intro (n1) (And.intro (w0) (And.intro (w1) (And.intro (q1) (q2)))))))))))))))))))
          repeat first
            | ((with_reducible apply ends_bind); case h => first | (simp only [stp, stq]; first | done | rfl) | rfl)
            | ((with_reducible apply ends_t); case h => first | rfl | (simp only [stp, stq]; done))
            | ((with_reducible apply ends_f); case h => first | rfl | (simp only [stp, stq]; done))
          exact ends_some (.inl ⟨rfl, d - 1, by omega, k + 1, false, _, _, _, _, _, _, _, _, _, by first | rfl | (rw [← e3]; rfl), u8l_keep _ _, flatP_keep _ _ _, flatP_keep _ _ _, keep _, hsn false (fun h => by cases h), by omega⟩)
        · have q2 : decide (p.off < e.1.off + (e.1.data.length : Int)) = false := decide_eq_false m2
          have stq := (And.intro (g0) (And.intro (e3') (And.intro (md) (And.intro (fi) (And.intro (c1) (And.intro (n_ft) (And.intro (x0) (And.intro (x1) (And.intro (fa) (And.intro (o0) (And.intro (o1) (And.intro (a0) (And.intro (a1) (And.intro (n0) (And.intro (n1) (And.intro (w0) (And.intro (w1) (And.intro (q1) (q2)))))))))))))))))))
          repeat first
            | ((with_reducible apply ends_bind); case h => first | (simp only [stp, stq]; first | done | rfl) | rfl)
            | ((with_reducible apply ends_t); case h => first | rfl | (simp only [stp, stq]; done))
            | ((with_reducible apply ends_f); case h => first | rfl | (simp only [stp, stq]; done))
          exact ends_some (.inl ⟨rfl, d - 1, by omega, k + 1, ok, _, _, _, _, _, _, _, _, _, by first | rfl | (rw [← e3]; rfl), u8l_keep _ _, flatP_keep _ _ _, flatP_keep _ _ _, keep _, hsn ok (fun h => ⟨h, fun _ => .inr (by omega)⟩), by omega⟩)
      · have q1 : decide (e.1.off < p.off + (p.data.length : Int)) = false := decide_eq_false m1
        have stq := (And.intro (g0) (And.intro (e3') (And.intro (md) (And.intro (fi) (And.intro (c1) (And.intro (n_ft) (And.intro (x0) (And.intro (x1) (And.intro (fa) (And.intro (o0) (And.intro (o1) (And.intro (a0) (And.intro (a1) (And.intro (n0) (And.intro (n1) (And.intro (w0) (And.intro (w1) (q1))))))))))))))))))
        repeat first
          | ((with_reducible apply ends_bind); case h => first | (simp only [stp, stq]; first | done | rfl) | rfl)
          | ((with_reducible apply ends_t); case h => first | rfl | (simp only [stp, stq]; done))
          | ((with_reducible apply ends_f); case h => first | rfl | (simp only [stp, stq]; done))
        exact ends_some (.inl ⟨rfl, d - 1, by omega, k + 1, ok, _, _, _, _, _, _, _, _, _, by first | rfl | (rw [← e3]; rfl), u8l_keep _ _, flatP_keep _ _ _, flatP_keep _ _ _, keep _, hsn ok (fun h => ⟨h, fun _ => .inl (by omega)⟩), by omega⟩)
    · rw [hc] at c1
      have stq := (And.intro (g0) (And.intro (e3') (And.intro (md) (And.intro (fi) (And.intro (c1) (n_tf))))))
      repeat first
        | ((with_reducible apply ends_bind); case h => first | (simp only [stp, stq]; first | done | rfl) | rfl)
        | ((with_reducible apply ends_t); case h => first | rfl | (simp only [stp, stq]; done))
        | ((with_reducible apply ends_f); case h => first | rfl | (simp only [stp, stq]; done))
      exact ends_some (.inl ⟨rfl, d - 1, by omega, k + 1, ok, _, _, _, _, _, _, _, _, _, by first | rfl | (rw [← e3]; rfl), u8l_keep _ _, flatP_keep _ _ _, flatP_keep _ _ _, keep _, hsn ok (fun h => ⟨h, fun h3 => by rw [hc] at h3; cases h3⟩), by omega⟩)
  · have g0 : decide ((k : Int) < (i : Int)) = false := decide_eq_false (by omega)
    have stq := (g0)
    repeat first
      | ((with_reducible apply ends_bind); case h => first | (simp only [stp, stq]; first | done | rfl) | rfl)
      | ((with_reducible apply ends_t); case h => first | rfl | (simp only [stp, stq]; done))
      | ((with_reducible apply ends_f); case h => first | rfl | (simp only [stp, stq]; done))
    refine ends_some (.inr (.inl ⟨2, rfl, X_l15_RollParts_1_0_lit (hQ ok _ _ _ _ _ _ _ ?_)⟩))
    intro h r hr
    obtain ⟨e, he, rfl⟩ := List.mem_map.1 hr
    obtain ⟨he1, he2⟩ := List.mem_filter.1 he
    obtain ⟨j, hj⟩ := List.getElem?_of_mem he1
    exact hok h j e (by have := (List.getElem?_eq_some_iff.1 hj).1; omega) hj (by simpa using he2)
end Go.Sy
