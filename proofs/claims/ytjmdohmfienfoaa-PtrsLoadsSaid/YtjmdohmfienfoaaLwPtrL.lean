/-
  Layer 11: the law PtrsLoads as the reader reads it.
-/
import Derived.Test.YtjmdohmfienfoaaPfAt
import Derived.Test.YtjmdohmfienfoaaPfAllS
namespace Go.Sy
open Go.Proofs Num Go.Proofs.Ytjmdohmfienfoaa

theorem ptV_pre (p : List UInt8) (i : Int) : Pre.ptV p i = ptV p i := rfl
theorem ptV_lt (p : List UInt8) (i : Int) : ptV p i < 65536 := le_lt2 _ (by rw [List.length_take]; omega)
theorem cf_ext {m : Nat} {f : FuncId} {args : List AV} {r : AV} {bx : Bx} (h : ext0 f args [] = some (r, bx)) : cf (evFn cx0 ext0 (m + 1)) f args = some (frz bx false 6 r) := by
  unfold cf evFn
  rw [h]
  rfl
abbrev wsl (f : Bool) (l : List (Nat × Nat)) : AV := .sl l.length (wdl l) f
theorem All_ext (m : Nat) (p : List UInt8) (hp : p.length = 54) : cf (evFn cx0 ext0 (m + 1)) 19 [.agg (u8l p)] = some (wsl false (ptP p)) := by
  have h : ext0 19 [.agg (u8l p)] [] = some (.sl 27 (wdl (ptP p)) false, []) := by
    show extC _ _ _ = _
    unfold extC
    rw [if_pos rfl]
    simp only
    rw [byA8_u8l, Option.bind_some, if_pos hp]
  rw [cf_ext h]
  have : (ptP p).length = 27 := upto_length _ _
  unfold wsl
  rw [this]
  rfl
theorem Used_ext (m : Nat) (p : List UInt8) (hp : p.length = 54) : cf (evFn cx0 ext0 (m + 1)) 21 [.agg (u8l p)] = some (.v (.int .i64 (usd (ptP p)))) := by
  have h : ext0 21 [.agg (u8l p)] [] = some (.v (.int .i64 (usd (ptP p))), []) := by
    show extC _ _ _ = _
    unfold extC
    rw [if_neg (by decide), if_pos rfl]
    simp only
    rw [byA8_u8l, Option.bind_some, if_pos hp]
  rw [cf_ext h]
  rfl
theorem rAt_ev {n : Nat} (hn : 20 ≤ n) (p : List UInt8) (hp : p.length = 54) (i : Int) : cf (evFn cx0 ext0 n) 16 [.agg (u8l p), .v (.int .i64 i)] = some (atV p i) := by
  obtain ⟨m, rfl⟩ : ∃ m, n = m + 2 := ⟨n - 2, by omega⟩
  unfold cf
  rw [E_r11_At]
  refine ends_cf (P := Try.prog) ?_
  unfold F_r11_At atV
  by_cases h0 : i < 0
  · have g0 : decide (i < 0) = true := decide_eq_true h0
    rw [if_neg (by omega)]
    have stq := (And.intro (box_agg) (g0))
    repeat first
      | ((with_reducible apply ends_bind); case h => first | (simp only [stp, stq]; first | done | rfl) | rfl)
      | ((with_reducible apply ends_t); case h => first | rfl | (simp only [stp, stq]; done))
      | ((with_reducible apply ends_f); case h => first | rfl | (simp only [stp, stq]; done))
    exact ends_some ⟨.inl rfl, _, rfl, rfl⟩
  have g0 : decide (i < 0) = false := decide_eq_false h0
  by_cases h1 : 26 < i
  · have g1 : decide (26 < i) = true := decide_eq_true h1
    rw [if_neg (by omega)]
    have stq := (And.intro (box_agg) (And.intro (g0) (g1)))
    repeat first
      | ((with_reducible apply ends_bind); case h => first | (simp only [stp, stq]; first | done | rfl) | rfl)
      | ((with_reducible apply ends_t); case h => first | rfl | (simp only [stp, stq]; done))
      | ((with_reducible apply ends_f); case h => first | rfl | (simp only [stp, stq]; done))
    exact ends_some ⟨.inl rfl, _, rfl, rfl⟩
  have g1 : decide (26 < i) = false := decide_eq_false h1
  rw [if_pos (by omega)]
  have e1 : IntKind.i64.wrap (2 * i) = 2 * i := by rw [wrap64]; omega
  have c2 := rGet16_ev (m := m + 1) (by omega) p true (2 * i) (by omega) (by omega)
  unfold getV at c2
  rw [if_neg (by omega)] at c2
  have s1 : sliceA Try.prog [u8l p] 40 (.bp 0 0) none none none = some (.bsl 0 0 54 1) := sl_a hL (k := 0) (b := p) rfl hp
  have f1 : frz [u8l p] true 6 (.bsl 0 0 54 1) = byt true p := frz_b8 true (b := p) rfl hp.symm
  have stq := (And.intro (box_agg) (And.intro (g0) (And.intro (g1) (And.intro (s1) (And.intro (e1) (And.intro (f1) (c2)))))))
  repeat first
    | ((with_reducible apply ends_bind); case h => first | (simp only [stp, stq]; first | done | rfl) | rfl)
    | ((with_reducible apply ends_t); case h => first | rfl | (simp only [stp, stq]; done))
    | ((with_reducible apply ends_f); case h => first | rfl | (simp only [stp, stq]; done))
  exact ends_some ⟨.inl rfl, _, rfl, rfl⟩

/-! ## a load with a pointer -/
def lw (p : List UInt8) (i x : Nat) : List UInt8 := p.take (2 * i) ++ p16 x ++ p.drop (2 * i + 2)
theorem lw_len (p : List UInt8) (hp : p.length = 54) (i x : Nat) (hi : i < 27) : (lw p i x).length = 54 := by
  unfold lw p16
  simp only [List.length_append, List.length_take, List.length_drop, List.length_cons, List.length_nil]
  omega
theorem lw_set (p : List UInt8) (hp : p.length = 54) (i x : Nat) (hi : i < 27) : (p.set (2 * i) (UInt8.ofNat x)).set (2 * i + 1) (UInt8.ofNat (x / 256)) = lw p i x := by
  apply List.ext_getElem?
  intro j
  unfold lw p16
  have h1 : (p.take (2 * i)).length = 2 * i := by rw [List.length_take]; omega
  rw [List.append_assoc, List.getElem?_append, h1]
  by_cases a : j < 2 * i
  · rw [if_pos a, List.getElem?_set_ne (by omega), List.getElem?_set_ne (by omega), List.getElem?_take_of_lt a]
  · rw [if_neg a, List.getElem?_append]
    show _ = if j - 2 * i < 2 then _ else _
    by_cases b : j = 2 * i
    · subst b
      rw [if_pos (by omega), Nat.sub_self, List.getElem?_set_ne (by omega), List.getElem?_set_self (by omega)]
      rfl
    · by_cases c : j = 2 * i + 1
      · subst c
        rw [if_pos (by omega), List.getElem?_set_self (by rw [List.length_set]; omega), show 2 * i + 1 - 2 * i = 1 by omega]
        rfl
      · rw [if_neg (by omega), List.getElem?_set_ne (by omega), List.getElem?_set_ne (by omega), List.getElem?_drop]
        congr 1
        show j = 2 * i + 2 + (j - 2 * i - 2)
        omega
def wiV (p : List UInt8) (i : Int) (x : Nat) : AV := if 0 ≤ i ∧ i < 27 then .tup [.agg (u8l (lw p i.toNat x)), .v (.int .i64 0)] else .tup [.agg (u8l (List.replicate 54 0)), .v (.int .i64 2)]
theorem h2 : arr8 Try.prog 53 2 = true := by kernel_rfl
theorem retq_ct {P : Program} {a t u : Nat} {env : Env} {bx : Bx} {x x' : AV} (hl : loadA P t bx (get env a) = some x) (hx : frz bx false 5 x = x') (hv : frz bx false 5 (get env u) = get env u) : RetQ P [.cell a t, .tmp u] (.tup [x', get env u]) .ret ⟨env, bx⟩ := by
  refine ⟨.inl rfl, [x, get env u], ?_, ?_⟩
  · simp only [resL, hl, Option.bind_some, Option.map_some]
  · show AV.tup [frz bx false 5 x, frz bx false 5 (get env u)] = _
    rw [hx, hv]
theorem With_ev {n : Nat} (hn : 20 ≤ n) (p : List UInt8) (hp : p.length = 54) (i : Int) (x : Nat) (hx : x < 65536) : cf (evFn cx0 ext0 n) 17 [.agg (u8l p), .v (.int .i64 i), .v (.int .u16 x)] = some (wiV p i x) := by
  obtain ⟨m, rfl⟩ : ∃ m, n = m + 2 := ⟨n - 2, by omega⟩
  have c1 : cf (evFn cx0 ext0 (m + 1)) 22 [.v (.int .i64 i)] = _ := mayAt_ev m i
  have aL := al_a hL (P := Try.prog)
  have aB := al_a h2 (P := Try.prog)
  have lL := lds hL (P := Try.prog)
  have sL := sts hL (P := Try.prog)
  have zl : (List.replicate 54 (0 : UInt8)).length = 54 := rfl
  have z0 := z_a hL (P := Try.prog)
  unfold cf
  rw [E_ptrs_With]
  refine ends_cf (P := Try.prog) ?_
  unfold F_ptrs_With wiV
  by_cases h : 0 ≤ i ∧ i < 27
  · rw [if_pos h]
    rw [decide_eq_true h] at c1
    obtain ⟨k, rfl⟩ : ∃ k : Nat, i = k := ⟨i.toNat, by omega⟩
    rw [Int.toNat_natCast]
    have e1 : IntKind.i64.wrap (2 * (k : Int)) = ((2 * k : Nat) : Int) := by rw [wrap64]; omega
    have c2 : cf (evFn cx0 ext0 (m + 1)) 25 [.v (.int .u16 x)] = some (.agg (u8l (p16 x))) := put16_ev m x
    have s0 := st_a h2 (P := Try.prog) (bx := [u8l p, u8l (List.replicate 54 0), u8l (List.replicate 2 0)]) (k := 2) (b := List.replicate 2 0) (c := p16 x) rfl rfl rfl
    simp only [List.set_cons_succ, List.set_cons_zero] at s0
    have s1 : sliceA Try.prog [u8l p, u8l (List.replicate 54 0), u8l (p16 x)] 40 (.bp 0 0) (some (.v (.int .i64 (2 * k : Nat)))) none none = some (.bsl 0 (2 * k) (54 - 2 * k) 1) := sl_alo hL (k := 0) (b := p) rfl hp .i64 (2 * k) (by omega)
    have s2 : sliceA Try.prog [u8l p, u8l (List.replicate 54 0), u8l (p16 x)] 53 (.bp 2 0) none none none = some (.bsl 2 0 2 1) := sl_a h2 (k := 2) (b := p16 x) rfl rfl
    have y1 : readA [u8l p, u8l (List.replicate 54 0), u8l (p16 x)] (.bsl 2 0 2 1) = some ((p16 x).length, u8l (p16 x)) := rd_b (b := p16 x) rfl
    have cp := cp_b t8 (P := Try.prog) (bx := [u8l p, u8l (List.replicate 54 0), u8l (p16 x)]) (k := 0) (off := 2 * k) (n := 54 - 2 * k) (b := p) (d := p16 x) (y := .bsl 2 0 2 1) rfl (by omega) y1 (by show 2 ≤ _; omega)
    rw [show p.take (2 * k) ++ p16 x ++ p.drop (2 * k + (p16 x).length) = lw p k x from rfl] at cp
    simp only [List.set_cons_succ, List.set_cons_zero] at cp
    have hl := lw_len p hp k x (by omega)
    have s3 := st_a hL (P := Try.prog) (bx := [u8l (lw p k x), u8l (List.replicate 54 0), u8l (p16 x)]) (k := 1) (b := List.replicate 54 0) (c := lw p k x) rfl rfl hl
    simp only [List.set_cons_succ, List.set_cons_zero] at s3
    have stq := (And.intro (box_agg) (And.intro (aL) (And.intro (aB) (And.intro (c1) (And.intro (n_tf) (And.intro (c2) (And.intro (s0) (And.intro (e1) (And.intro (s1) (And.intro (s2) (And.intro (cp) (And.intro (lL) (And.intro (hl) (s3))))))))))))))
    repeat first
      | ((with_reducible apply ends_bind); case h => first | (simp only [stp, stq]; first | done | rfl) | rfl)
      | ((with_reducible apply ends_t); case h => first | rfl | (simp only [stp, stq]; done))
      | ((with_reducible apply ends_f); case h => first | rfl | (simp only [stp, stq]; done))
    exact ends_some (retq_ct (ld_a hL (b := lw p k x) rfl hl) (frz_agg _ _ _ _) rfl)
  · rw [if_neg h]
    rw [decide_eq_false h] at c1
    have stq := (And.intro (box_agg) (And.intro (aL) (And.intro (c1) (And.intro (n_ft) (And.intro (z0) (And.intro (sL) (zl)))))))
    repeat first
      | ((with_reducible apply ends_bind); case h => first | (simp only [stp, stq]; first | done | rfl) | rfl)
      | ((with_reducible apply ends_t); case h => first | rfl | (simp only [stp, stq]; done))
      | ((with_reducible apply ends_f); case h => first | rfl | (simp only [stp, stq]; done))
    exact ends_some (retq_ct (ld_a hL (b := List.replicate 54 0) rfl rfl) (frz_agg _ _ _ _) rfl)
theorem ld_ip8 (bx : Bx) (x : AV) (r : List AV) (f : Bool) : loadA Try.prog 5 bx (.ip (x :: r) f) = some x := by kernel_rfl
theorem sz8 : szA Try.prog 5 = some 1 := by kernel_rfl
theorem rWith_ev {n : Nat} (hn : 20 ≤ n) (p : List UInt8) (hp : p.length = 54) (i : Int) (x : Nat) (hx : x < 65536) : cf (evFn cx0 ext0 n) 18 [.agg (u8l p), .v (.int .i64 i), .v (.int .u16 x)] = some (wiV p i x) := by
  obtain ⟨m, rfl⟩ : ∃ m, n = m + 2 := ⟨n - 2, by omega⟩
  have aL := al_a hL (P := Try.prog)
  have lL := lds hL (P := Try.prog)
  have sL := sts hL (P := Try.prog)
  have zl : (List.replicate 54 (0 : UInt8)).length = 54 := rfl
  have z0 := z_a hL (P := Try.prog)
  unfold cf
  rw [E_r11_With]
  refine ends_cf (P := Try.prog) ?_
  unfold F_r11_With wiV
  by_cases h0 : i < 0
  · have g0 : decide (i < 0) = true := decide_eq_true h0
    rw [if_neg (by omega)]
    have stq := (And.intro (box_agg) (And.intro (aL) (And.intro (g0) (And.intro (z0) (And.intro (sL) (zl))))))
    repeat first
      | ((with_reducible apply ends_bind); case h => first | (simp only [stp, stq]; first | done | rfl) | rfl)
      | ((with_reducible apply ends_t); case h => first | rfl | (simp only [stp, stq]; done))
      | ((with_reducible apply ends_f); case h => first | rfl | (simp only [stp, stq]; done))
    exact ends_some (retq_ct (ld_a hL (b := List.replicate 54 0) rfl rfl) (frz_agg _ _ _ _) rfl)
  have g0 : decide (i < 0) = false := decide_eq_false h0
  by_cases h1 : 26 < i
  · have g1 : decide (26 < i) = true := decide_eq_true h1
    rw [if_neg (by omega)]
    have stq := (And.intro (box_agg) (And.intro (aL) (And.intro (g0) (And.intro (g1) (And.intro (z0) (And.intro (sL) (zl)))))))
    repeat first
      | ((with_reducible apply ends_bind); case h => first | (simp only [stp, stq]; first | done | rfl) | rfl)
      | ((with_reducible apply ends_t); case h => first | rfl | (simp only [stp, stq]; done))
      | ((with_reducible apply ends_f); case h => first | rfl | (simp only [stp, stq]; done))
    exact ends_some (retq_ct (ld_a hL (b := List.replicate 54 0) rfl rfl) (frz_agg _ _ _ _) rfl)
  have g1 : decide (26 < i) = false := decide_eq_false h1
  rw [if_pos (by omega)]
  obtain ⟨k, rfl⟩ : ∃ k : Nat, i = k := ⟨i.toNat, by omega⟩
  rw [Int.toNat_natCast]
  have e1 : IntKind.i64.wrap (2 * (k : Int)) = ((2 * k : Nat) : Int) := by rw [wrap64]; omega
  have e2 : IntKind.i64.wrap (((2 * k : Nat) : Int) + 1) = ((2 * k + 1 : Nat) : Int) := by rw [wrap64]; omega
  have c2 : cf (evFn cx0 ext0 (m + 1)) 26 [.v (.int .u16 x)] = some (byt false (p16 x)) := rput16_ev m x hx
  have s0 := st_a hL (P := Try.prog) (bx := [u8l p, u8l (List.replicate 54 0), u8l (List.replicate 54 0)]) (k := 2) (b := List.replicate 54 0) (c := p) rfl rfl hp
  simp only [List.set_cons_succ, List.set_cons_zero] at s0
  have i0 : indexAddrA Try.prog 52 (byt false (p16 x)) (.v (.int .i64 0)) = some (.ip (u8 (UInt8.ofNat x) :: [u8 (UInt8.ofNat (x / 256))]) false) := by kernel_rfl
  have i1 : indexAddrA Try.prog 52 (byt false (p16 x)) (.v (.int .i64 1)) = some (.ip (u8 (UInt8.ofNat (x / 256)) :: []) false) := by kernel_rfl
  have l8 := fun bx x r => ld_ip8 bx x r false
  have j0 := ix_a hL (P := Try.prog) 2 0 .i64 (2 * k) (by omega)
  have j1 := ix_a hL (P := Try.prog) 2 0 .i64 (2 * k + 1) (by omega)
  rw [Nat.zero_add] at j0 j1
  have t0 := st_b8 sz8 [u8l p, u8l (List.replicate 54 0), u8l p] 2 (2 * k) p (UInt8.ofNat x) rfl (by omega)
  simp only [List.set_cons_succ, List.set_cons_zero] at t0
  have t1 := st_b8 sz8 [u8l p, u8l (List.replicate 54 0), u8l (p.set (2 * k) (UInt8.ofNat x))] 2 (2 * k + 1) (p.set (2 * k) (UInt8.ofNat x)) (UInt8.ofNat (x / 256)) rfl (by rw [List.length_set]; omega)
  rw [lw_set p hp k x (by omega)] at t1
  simp only [List.set_cons_succ, List.set_cons_zero] at t1
  have hl := lw_len p hp k x (by omega)
  have s3 := st_a hL (P := Try.prog) (bx := [u8l p, u8l (List.replicate 54 0), u8l (lw p k x)]) (k := 1) (b := List.replicate 54 0) (c := lw p k x) rfl rfl hl
  simp only [List.set_cons_succ, List.set_cons_zero] at s3
  have ga : ∀ o y, guardB (apartV (.bp 2 o) (.ip y false) && true) = some () := fun _ _ => rfl
  have stq := (And.intro (box_agg) (And.intro (aL) (And.intro (g0) (And.intro (g1) (And.intro (c2) (And.intro (lL) (And.intro (hp) (And.intro (s0) (And.intro (e1) (And.intro (e2) (And.intro (i0) (And.intro (i1) (And.intro (l8) (And.intro (j0) (And.intro (j1) (And.intro (ga) (And.intro (t0) (And.intro (t1) (And.intro (hl) (s3))))))))))))))))))))
  repeat first
    | ((with_reducible apply ends_bind); case h => first | (simp only [stp, stq]; first | done | rfl) | rfl)
    | ((with_reducible apply ends_t); case h => first | rfl | (simp only [stp, stq]; done))
    | ((with_reducible apply ends_f); case h => first | rfl | (simp only [stp, stq]; done))
  exact ends_some (retq_ct (ld_a hL (b := lw p k x) rfl hl) (frz_agg _ _ _ _) rfl)

/-! ## all pointers -/
theorem tw : sl1 Try.prog 46 = true := by kernel_rfl
theorem wdl_len (l : List (Nat × Nat)) : (wdl l).length = l.length := by simp [wdl]
theorem wdl_keep (q : Nat → Bool) (l : List (Nat × Nat)) : (wdl l).map (AV.keep q) = wdl l := by simp [wdl, AV.keep]
theorem wdl_frz (bx : Bx) (f : Bool) (d : Nat) (l : List (Nat × Nat)) : (wdl l).map (frz bx f (d + 1)) = wdl l := by simp [wdl, frz]
theorem wdl_app (l : List (Nat × Nat)) (x : Nat × Nat) : wdl l ++ [.v (.int .u16 (x.2 : Int))] = wdl (l ++ [x]) := by simp [wdl]
theorem bs_w0 (bx : Bx) : buildSliceA Try.prog bx 46 0 [] = some (.bsl bx.length 0 0 1, bx ++ [[]]) := by kernel_rfl
theorem bs_w1 (bx : Bx) (v : Int) : buildSliceA Try.prog bx 46 1 [(0, .v (.int .u16 v))] = some (.bsl bx.length 0 1 1, bx ++ [[.v (.int .u16 v)]]) := by kernel_rfl
theorem rAll_ev {n : Nat} (hn : 60 ≤ n) (p : List UInt8) (hp : p.length = 54) : cf (evFn cx0 ext0 n) 20 [.agg (u8l p)] = some (wsl false (ptP p)) := by
  obtain ⟨m, rfl⟩ : ∃ m, n = m + 1 := ⟨n - 1, by omega⟩
  have lL := lds hL (P := Try.prog)
  have b0 := bs_w0
  unfold cf
  rw [E_r11_All]
  refine ends_cf (P := Try.prog) ?_
  unfold F_r11_All
  have stq := (And.intro (box_agg) (b0))
  repeat first
    | ((with_reducible apply ends_bind); case h => first | (simp only [stp, stq]; first | done | rfl) | rfl)
    | ((with_reducible apply ends_t); case h => first | rfl | (simp only [stp, stq]; done))
    | ((with_reducible apply ends_f); case h => first | rfl | (simp only [stp, stq]; done))
  refine ends_loop (fun d s => ∃ (j : Nat) (y2 y0 : AV) (d0 d1 d2 : List AV), s = ⟨[(4, .v (.int .i64 j)), (3, .bsl 2 0 j 1), (2, y2), (1, .bp 0 0), (0, y0)], [d0, d1, d2]⟩ ∧ d0 = u8l p ∧ d1 = [] ∧ d2 = wdl (upto (fun j => (j, Pre.ptV p (j : Int))) j) ∧ j + d = 27) 27 (by omega) ⟨0, _, _, _, _, _, rfl, rfl, rfl, rfl, by omega⟩ ?_
  rintro d s ⟨j, y2, y0, d0, d1, d2, rfl, rfl, rfl, rfl, hd⟩
  refine L_r11_All_0_lit ?_
  unfold B_r11_All_0
  by_cases hx : j < 27
  · have g0 : decide ((j : Int) < 27) = true := decide_eq_true (by omega)
    have c1 := rAt_ev (n := m) (by omega) p hp (j : Int)
    unfold atV at c1
    rw [if_pos (by omega)] at c1
    have e3 : IntKind.i64.wrap ((j : Int) + 1) = ((j + 1 : Nat) : Int) := by rw [wrap64]; omega
    have b1 := bs_w1
    have ul := upto_length (fun j => (j, Pre.ptV p (j : Int))) j
    have ap := appV1 tw 0 [u8l p, [], wdl (upto (fun j => (j, Pre.ptV p (j : Int))) j), [.v (.int .u16 (ptV p (j : Int) : Nat))]] (.bsl 3 0 1 1) 2 (wdl (upto (fun j => (j, Pre.ptV p (j : Int))) j)) [.v (.int .u16 (ptV p (j : Int) : Nat))] j rfl (by omega) rfl (by show 1 < 2 ^ 32; omega) (by rw [wdl_len, ul]; omega) (by rw [wdl_len, ul])
    rw [wdl_app (upto (fun j => (j, Pre.ptV p (j : Int))) j) (j, ptV p (j : Int)), wdl_len, ul, show upto (fun j => (j, Pre.ptV p (j : Int))) j ++ [(j, ptV p (j : Int))] = upto (fun j => (j, Pre.ptV p (j : Int))) (j + 1) from (upto_succ _ _).symm] at ap
    simp only [List.map_cons, List.map_nil, u8l_keep, wdl_keep, AV.keep, List.set_cons_succ, List.set_cons_zero, List.length_cons, List.length_nil, Nat.zero_add] at ap
    have stq := (And.intro (g0) (And.intro (lL) (And.intro (hp) (And.intro (frz_agg) (And.intro (c1) (And.intro (b1) (And.intro (ap) (e3))))))))
    repeat first
      | ((with_reducible apply ends_bind); case h => first | (simp only [stp, stq]; first | done | rfl) | rfl)
      | ((with_reducible apply ends_t); case h => first | rfl | (simp only [stp, stq]; done))
      | ((with_reducible apply ends_f); case h => first | rfl | (simp only [stp, stq]; done))
    refine ends_some (.inl ⟨rfl, d - 1, by omega, j + 1, _, _, _, _, _, by first | rfl | (rw [← e3]; rfl), u8l_keep _ _, rfl, wdl_keep _ _, by omega⟩)
  · have g0 : decide ((j : Int) < 27) = false := decide_eq_false (by omega)
    obtain rfl : j = 27 := by omega
    have stq := (g0)
    repeat first
      | ((with_reducible apply ends_bind); case h => first | (simp only [stp, stq]; first | done | rfl) | rfl)
      | ((with_reducible apply ends_t); case h => first | rfl | (simp only [stp, stq]; done))
      | ((with_reducible apply ends_f); case h => first | rfl | (simp only [stp, stq]; done))
    refine ends_some (.inr (.inl ⟨0, rfl, X_r11_All_0_0_lit ?_⟩))
    refine ends_some ⟨.inl rfl, _, rfl, ?_⟩
    have hl : (ptP p).length = 27 := upto_length _ _
    show AV.sl 27 ((((wdl (ptP p)).drop 0).take (27 * 1)).map (frz _ false 5)) false = _
    rw [List.drop_zero, List.take_of_length_le (by rw [wdl_len, hl]; omega), wdl_frz]
    unfold wsl
    rw [hl]

/-! ## the law -/
theorem works_at (n : Nat) (h : 60 ≤ n) : cf (evFn cx0 ext0 n) 9 [] = some (.v (.bool true)) := by
  obtain ⟨m, rfl⟩ : ∃ m, n = m + 60 := ⟨n - 60, by omega⟩
  kernel_rfl
theorem atV_form (p : List UInt8) (i : Int) : ∃ v e : Int, atV p i = .tup [.v (.int .u16 v), .v (.int .i64 e)] := by
  unfold atV
  split
  · exact ⟨_, _, rfl⟩
  · exact ⟨_, _, rfl⟩
theorem wiV_form (p : List UInt8) (hp : p.length = 54) (i : Int) (x : Nat) : ∃ (q : List UInt8) (e : Int), wiV p i x = .tup [.agg (u8l q), .v (.int .i64 e)] ∧ q.length = 54 := by
  unfold wiV
  split
  · exact ⟨_, _, rfl, lw_len p hp _ x (by omega)⟩
  · exact ⟨_, _, rfl, rfl⟩
theorem len_w (f : Bool) (l : List (Nat × Nat)) : lenA Try.prog 46 (wsl f l) = some (.v (.int .i64 (l.length : Int))) := by kernel_rfl
theorem idx_w (f : Bool) (l : List (Nat × Nat)) (i : Nat) (hi : i < l.length) : indexAddrA Try.prog 46 (wsl f l) (.v (.int .i64 i)) = some (.ip (.v (.int .u16 (l[i].2 : Int)) :: wdl (l.drop (i + 1))) f) := by
  have h : indexAddrA Try.prog 46 (wsl f l) (.v (.int .i64 i)) = (idxI l.length 0 1 (.v (.int .i64 i))).bind fun o => if l.length * 1 ≤ (wdl l).length then some (.ip ((wdl l).drop o) f) else none := by kernel_rfl
  have e : idxI l.length 0 1 (.v (.int .i64 i)) = some i := by
    show (if 0 ≤ (i : Int) ∧ (i : Int) < l.length then some (0 + (i : Int).toNat * 1) else none) = _
    rw [if_pos ⟨by omega, by omega⟩, Int.toNat_natCast, Nat.zero_add, Nat.mul_one]
  rw [h, e, Option.bind_some, if_pos (by rw [wdl_len]; omega)]
  unfold wdl
  rw [← List.map_drop, List.drop_eq_getElem_cons hi]
  rfl
theorem ld_w (bx : Bx) (f : Bool) (x : Int) (r : List AV) : loadA Try.prog 41 bx (.ip (.v (.int .u16 x) :: r) f) = some (.v (.int .u16 x)) := by kernel_rfl
theorem loads_ev (p : List UInt8) (hp : p.length = 54) (i : Int) (x : Nat) (hx : x < 65536) : cf (evFn cx0 ext0 1000) 6 [.agg (u8l p), .v (.int .i64 i), .v (.int .u16 x)] = some (.v (.bool true)) := by
  have hw := works_at 999 (by omega)
  have c1 := At_ev (n := 999) (by omega) p hp i
  have c2 := rAt_ev (n := 999) (by omega) p hp i
  have c3 := With_ev (n := 999) (by omega) p hp i x hx
  have c4 := rWith_ev (n := 999) (by omega) p hp i x hx
  obtain ⟨v, e, h1⟩ := atV_form p i
  obtain ⟨q, e', h2, hq⟩ := wiV_form p hp i x
  rw [h1] at c1 c2
  rw [h2] at c3 c4
  have c5 : cf (evFn cx0 ext0 999) 19 [.agg (u8l p)] = _ := All_ext 998 p hp
  have c6 := rAll_ev (n := 999) (by omega) p hp
  have c7 : cf (evFn cx0 ext0 999) 21 [.agg (u8l p)] = _ := Used_ext 998 p hp
  have hl : (ptP p).length = 27 := upto_length _ _
  generalize ptP p = M at *
  have aL := al_a hL (P := Try.prog)
  have lL := lds hL (P := Try.prog)
  have sL := sts hL (P := Try.prog)
  have zl : (List.replicate 54 (0 : UInt8)).length = 54 := rfl
  have eq := (eq_a hL (P := Try.prog) (a := q) (b := q) hq hq).2
  have bb : (q == q) = true := by simp
  have lw := len_w false M
  unfold cf
  rw [E_l11_PtrsLoads]
  refine ends_cf (P := Try.prog) ?_
  unfold F_l11_PtrsLoads
  have stq := (And.intro (box_agg) (And.intro (aL) (And.intro (lL) (And.intro (sL) (And.intro (hp) (And.intro (hq) (And.intro (zl) (And.intro (frz_agg) (And.intro (c1) (And.intro (c2) (And.intro (c3) (And.intro (c4) (And.intro (c5) (And.intro (c6) (And.intro (eq) (And.intro (bb) (And.intro (n_tf) (lw))))))))))))))))))
  repeat first
    | ((with_reducible apply ends_bind); case h => first | (simp only [stp, stq]; first | done | rfl) | rfl)
    | ((with_reducible apply ends_t); case h => first | rfl | (simp only [stp, stq]; done))
    | ((with_reducible apply ends_f); case h => first | rfl | (simp only [stp, stq]; done))
  refine ends_loop (fun d s => ∃ (j : Nat) (y73 y14 y13 y12 y11 y10 y9 y8 y7 y6 y0 y1 y2 : AV) (d0 d1 d2 : List AV), s = ⟨[(18, .v (.int .i64 j)), (17, .v (.int .i64 (usd (M.take j)))), (73, y73), (16, wsl false M), (15, wsl false M), (14, y14), (13, y13), (12, y12), (11, y11), (10, y10), (9, y9), (8, y8), (7, y7), (6, y6), (3, .bp 0 0), (0, y0), (1, y1), (2, y2)], [d0, d1, d2]⟩ ∧ d0 = u8l p ∧ j + d = M.length) M.length (by omega) ⟨0, _, _, _, _, _, _, _, _, _, _, _, _, _, _, _, _, rfl, rfl, by omega⟩ ?_
  rintro d s ⟨j, y73, y14, y13, y12, y11, y10, y9, y8, y7, y6, y0, y1, y2, d0, d1, d2, rfl, rfl, hd⟩
  refine L_l11_PtrsLoads_0_lit ?_
  unfold B_l11_PtrsLoads_0
  by_cases hj : j < M.length
  · have g0 : decide ((j : Int) < (M.length : Int)) = true := decide_eq_true (by omega)
    have i0 := idx_w false M j hj
    have l0 := fun bx => ld_w bx false (M[j].2 : Int) (wdl (M.drop (j + 1)))
    have e3 : IntKind.i64.wrap ((j : Int) + 1) = ((j + 1 : Nat) : Int) := by rw [wrap64]; omega
    have ul := usd_le (M.take j)
    rw [List.length_take] at ul
    have e4 : IntKind.i64.wrap ((usd (M.take j) : Int) + 1) = ((usd (M.take j) + 1 : Nat) : Int) := by rw [wrap64]; omega
    have ht := List.take_succ_eq_append_getElem hj
    by_cases hz : M[j].2 = 0
    · have z : ((M[j].2 : Int) != 0) = false := by simp [hz]
      have hu : usd (M.take (j + 1)) = usd (M.take j) := by rw [ht, usd_miss _ _ hz]
      have stq := (And.intro (lw) (And.intro (g0) (And.intro (i0) (And.intro (l0) (And.intro (z) (e3))))))
      repeat first
        | ((with_reducible apply ends_bind); case h => first | (simp only [stp, stq]; first | done | rfl) | rfl)
        | ((with_reducible apply ends_t); case h => first | rfl | (simp only [stp, stq]; done))
        | ((with_reducible apply ends_f); case h => first | rfl | (simp only [stp, stq]; done))
      rw [← hu]
      exact ends_some (.inl ⟨rfl, d - 1, by omega, j + 1, _, _, _, _, _, _, _, _, _, _, _, _, _, _, _, _, by first | rfl | (rw [← e3]; rfl), u8l_keep _ _, by omega⟩)
    · have z : ((M[j].2 : Int) != 0) = true := by simp [hz]
      have hu : usd (M.take (j + 1)) = usd (M.take j) + 1 := by rw [ht, usd_hit _ _ hz]
      rw [← hu] at e4
      have stq := (And.intro (lw) (And.intro (g0) (And.intro (i0) (And.intro (l0) (And.intro (z) (And.intro (e3) (e4)))))))
      repeat first
        | ((with_reducible apply ends_bind); case h => first | (simp only [stp, stq]; first | done | rfl) | rfl)
        | ((with_reducible apply ends_t); case h => first | rfl | (simp only [stp, stq]; done))
        | ((with_reducible apply ends_f); case h => first | rfl | (simp only [stp, stq]; done))
      exact ends_some (.inl ⟨rfl, d - 1, by omega, j + 1, _, _, _, _, _, _, _, _, _, _, _, _, _, _, _, _, by first | rfl | (rw [← e3]; rfl), u8l_keep _ _, by omega⟩)
  · have g0 : decide ((j : Int) < (M.length : Int)) = false := decide_eq_false (by omega)
    rw [List.take_of_length_le (show M.length ≤ j by omega)]
    have stq := (And.intro (lw) (g0))
    repeat first
      | ((with_reducible apply ends_bind); case h => first | (simp only [stp, stq]; first | done | rfl) | rfl)
      | ((with_reducible apply ends_t); case h => first | rfl | (simp only [stp, stq]; done))
      | ((with_reducible apply ends_f); case h => first | rfl | (simp only [stp, stq]; done))
    refine ends_some (.inr (.inl ⟨0, rfl, X_l11_PtrsLoads_0_0_lit ?_⟩))
    unfold X_l11_PtrsLoads_0_0
    have stq := (And.intro (lL) (And.intro (hp) (And.intro (frz_agg) (And.intro (c7) (hw)))))
    repeat first
      | ((with_reducible apply ends_bind); case h => first | (simp only [stp, stq]; first | done | rfl) | rfl)
      | ((with_reducible apply ends_t); case h => first | rfl | (simp only [stp, stq]; done))
      | ((with_reducible apply ends_f); case h => first | rfl | (simp only [stp, stq]; done))
    exact ends_some ⟨.inl rfl, _, rfl, rfl⟩
end Go.Sy
