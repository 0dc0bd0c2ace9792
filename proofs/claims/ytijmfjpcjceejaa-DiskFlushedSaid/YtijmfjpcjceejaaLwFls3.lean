/-
  The law DiskFlushed as the reader reads it: its beginning, and the whole.
-/
import Derived.Test.YtijmfjpcjceejaaLwFls2
namespace Go.Sy
open Go.Proofs
open Go.Sy.Pr0 (Wt Ws wEs DB DQ dbA dbA_of dbA_inv shw wl nilP)

theorem b36 : buildA Try.prog 36 [] = some (.agg (shC [])) := by kernel_rfl
theorem al36 (bx : Bx) : allocA Try.prog bx 36 = some (.bp bx.length 0, bx ++ [shC []]) := by
  have h : zcA Try.prog 36 = some (shC []) := by kernel_rfl
  unfold allocA
  rw [h]
  rfl
theorem st36 {bx : Bx} {g : Nat} (h : bx[g]? = some (shC [])) : stA Try.prog 36 bx (.bp g 0) (.agg (shC [])) = some (.v undef, bx) := by
  have h1 : szA Try.prog 36 = some 8 := by kernel_rfl
  unfold stA storeA
  simp only [h1, h, Option.bind_some]
  rw [if_pos ⟨rfl, rfl, by rw [shC_len (by simp)]; omega⟩]
  have : storeL (shC []) 0 (AV.agg (shC [])).cells = shC [] := by kernel_rfl
  rw [this, List.set_getElem?_self' h]
  rfl
theorem Shn.more {O : Nat → Prop} {bx : Bx} {g : Nat} {sh : List Sq} (h : Shn O bx g sh) (hO : ∀ j, O j → j < bx.length) (h8 : sh.length < 8) {b : List UInt8} (hb : b.length = 64) :
    Shn O ((bx ++ [u8l b]).set g (shC (sh ++ [(bx.length, b)]))) g (sh ++ [(bx.length, b)]) := by
  have lt : ∀ {i : Nat} {l : List AV}, bx[i]? = some l → i < bx.length := fun h => (List.getElem?_eq_some_iff.1 h).1
  have hg := lt h.hg
  refine ⟨by rw [List.getElem?_set_self (by rw [List.length_append]; omega)], by simp; omega, fun q hq => ?_, ?_, h.og⟩
  · rcases List.mem_append.1 hq with hq | hq
    · obtain ⟨q1, q2, q3, q4, q5, q6⟩ := h.hq q hq
      exact ⟨by rw [List.getElem?_set_ne (Ne.symm q6), List.getElem?_append_left (lt q1)]; exact q1, q2, q3, q4, q5, q6⟩
    · simp only [List.mem_singleton] at hq
      subst hq
      refine ⟨?_, by simp [hb], by simp [hb], by simp [hb], fun ho => by have := hO _ ho; simp at this, by simp; omega⟩
      rw [List.getElem?_set_ne (by simp; omega)]
      simp
  · rw [List.map_append, List.nodup_append]
    refine ⟨h.nd, by simp, fun x hx y hy => ?_⟩
    simp at hy
    obtain ⟨q, hq, rfl⟩ := List.mem_map.1 hx
    have := lt (h.hq q hq).1
    omega
theorem stage1 {O : Nat → Prop} {bx : Bx} {d s m cl : Nat} {z : Int} {c : List UInt8} {bs : List Nat} {ws : Ws} {ks : List Int} (D : DB O bx d s 8 m cl nilP z c bs ws) (hO : ∀ j, O j → j < bx.length) (hg : Pr0.Good bx)
    {x1 x2 : AV} {L1 : List (Int × List UInt8)} (A1 : Acts x1 L1) (hk : ∀ bx s, keepA bx s x2 = some ks) (x34 x9 x22 x6 x0 : AV) :
    Ends (X_l04_DiskFlushed_0_0 E9 999 0 x34 x9 (.bp d 0) x22 x6 x0 x1 x2 bx) QT := by
  have al := al36 bx
  obtain ⟨y, hy⟩ : ∃ x, x = bx ++ [shC []] := ⟨_, rfl⟩
  rw [← hy] at al
  have hyg : y[bx.length]? = some (shC []) := by rw [hy]; simp
  have st := st36 hyg
  have Dy : DB O y d s 8 m cl nilP z c bs ws := by rw [hy]; exact D.app _
  have gy : Pr0.Good y := by rw [hy]; exact hg.app fun l hl => by simp at hl; subst hl; exact eqCs_shC []
  obtain ⟨y1, c1, ef, D1, hc1, f1, l1, _⟩ := flush_cl 998 Dy (by omega) gy
  have cf' : callA E9 md_l04_DiskFlushed y 10 [.bp d 0] = some (.v (.int .i64 0), y1) := by rw [Pr0.call_k rfl]; exact ef
  have hOg : ¬ O bx.length := fun h => by have := hO _ h; omega
  have S1 : Shn O y1 bx.length [] := ⟨by rw [f1 _ hOg]; exact hyg, by simp, by simp, .nil, hOg⟩
  have hO1 : ∀ j, O j → j < y1.length := fun j hj => by have := hO j hj; rw [l1, hy]; simp; omega
  have z0 : ((0 : Int) != 0) = false := rfl
  unfold X_l04_DiskFlushed_0_0
  have b36 := b36
  have stq := (And.intro (b36) (And.intro (al) (And.intro (st) (And.intro (cf') (z0)))))
  repeat first
    | ((with_reducible apply ends_bind); case h => first | (simp only [stp, stq]; first | done | rfl) | rfl)
    | ((with_reducible apply ends_t); case h => first | rfl | (simp only [stp, stq]; done))
    | ((with_reducible apply ends_f); case h => first | rfl | (simp only [stp, stq]; done))
  generalize bx.length = g at *
  refine ends_loop (n := 999) (fun r t => ∃ (i : Nat) (y : Bx) (sh : List Sq) (x53 x34 x9 x22 x6 x0 : AV), t = ⟨[(11, .v (.int .i64 i)), (53, x53), (10, .bp g 0), (34, x34), (9, x9), (7, .bp d 0), (22, x22), (6, x6), (0, x0), (1, x1), (2, x2)], y⟩ ∧
      i + r = 8 ∧ DB O y d s 8 m cl nilP z c1 [] [] ∧ (∀ j, O j → j < y.length) ∧ Shn O y g sh ∧ sh.length = i ∧ (∀ k (h : k < sh.length), (sh[k]).2 = bk c1 k)) 8 (by omega)
    ⟨0, y1, [], _, _, _, _, _, _, rfl, by omega, D1, hO1, S1, rfl, fun k h => by simp at h⟩ ?_
  clear D1 hO1 S1 cf' ef f1 l1 hyg st al gy Dy hy
  rintro r t ⟨i, y, sh, x53, x34, x9, x22, x6, x0, rfl, hir, D1, hO1, S1, hl, hsh⟩
  refine L_l04_DiskFlushed_1_lit ?_
  unfold B_l04_DiskFlushed_1
  by_cases hi : i < 8
  · have g1 : decide ((i : Int) < 8) = true := decide_eq_true (by omega)
    obtain ⟨t, er, gt⟩ := read_cl 998 D1 i hi
    have cr : callA E9 md_l04_DiskFlushed y 11 [.bp d 0, .v (.int .i64 i)] = some (.tup [.agg (u8l (bk c1 i)), .v (.int .i64 0)], y ++ t) := by rw [Pr0.call_k rfl]; exact er
    have hbl : (bk c1 i).length = 64 := bk_len (n := 8) hi D1.hc
    obtain ⟨y1, hy1⟩ : ∃ x, x = y ++ t := ⟨_, rfl⟩
    rw [← hy1] at cr
    have D2 : DB O y1 d s 8 m cl nilP z c1 [] [] := by rw [hy1]; exact D1.app t
    have S2 : Shn O y1 g sh := by rw [hy1]; exact S1.app hO1 t
    have hO2 : ∀ j, O j → j < y1.length := fun j hj => by have := hO1 j hj; rw [hy1]; simp; omega
    have al := al_a hB (P := Try.prog) y1
    have stz : stA Try.prog 32 (y1 ++ [u8l (List.replicate 64 0)]) (.bp y1.length 0) (.agg (u8l (bk c1 i))) = some (.v undef, y1 ++ [u8l (bk c1 i)]) := by
      have := st_a hB (bx := y1 ++ [u8l (List.replicate 64 0)]) (k := y1.length) (b := List.replicate 64 0) (c := bk c1 i) (by simp) (by simp) hbl
      rw [this]
      simp
    obtain ⟨y2, hy2⟩ : ∃ x, x = y1 ++ [u8l (bk c1 i)] := ⟨_, rfl⟩
    rw [← hy2] at stz
    have D3 : DB O y2 d s 8 m cl nilP z c1 [] [] := by rw [hy2]; exact D2.app _
    have S3 : Shn O y2 g sh := by rw [hy2]; exact S2.app hO2 _
    have hO3 : ∀ j, O j → j < y2.length := fun j hj => by have := hO2 j hj; rw [hy2]; simp; omega
    have lT : loadA Try.prog 32 y2 (.bp y1.length 0) = some (.agg (u8l (bk c1 i))) := ld_a hB (by rw [hy2]; simp) hbl
    have mk := mk_g1 y2 hbl
    obtain ⟨y3, hy3⟩ : ∃ x, x = y2 ++ [u8l (bk c1 i)] := ⟨_, rfl⟩
    rw [← hy3] at mk
    have ixg := ix_sh g i hi
    have hg3 : y3[g]? = some (shC sh) := by rw [hy3, List.getElem?_append_left (List.getElem?_eq_some_iff.1 S3.hg).1]; exact S3.hg
    have S4 := S3.more hO3 (by omega) hbl
    have stg := st_sh hg3 (k := i) (by rw [shC_len S1.hl]; exact hi) (y2.length, bk c1 i)
    have hset : (shC sh).set i (gv (y2.length, bk c1 i)) = shC (sh ++ [(y2.length, bk c1 i)]) := by rw [← hl]; exact shC_new (by omega) _
    rw [hset] at stg
    have hgv : gv (y2.length, bk c1 i) = .gs y2.length 1 64 := by simp [gv, hbl]
    rw [hgv] at stg
    rw [← hy3] at S4
    obtain ⟨y4, hy4⟩ : ∃ x, x = y3.set g (shC (sh ++ [(y2.length, bk c1 i)])) := ⟨_, rfl⟩
    rw [← hy4] at stg S4
    have D4 : DB O y4 d s 8 m cl nilP z c1 [] [] := D3.frame fun j hj hl => by
      have n1 : g ≠ j := fun e => by subst e; exact S3.og hj
      rw [hy4, List.getElem?_set_ne n1, hy3, List.getElem?_append_left hl]
    have hO4 : ∀ j, O j → j < y4.length := fun j hj => by have := hO3 j hj; rw [hy4, hy3]; simp; omega
    have e3 : IntKind.i64.wrap ((i : Int) + 1) = ((i + 1 : Nat) : Int) := by rw [wrap64]; omega
    have stq := (And.intro (g1) (And.intro (cr) (And.intro (al) (And.intro (stz) (And.intro (lT) (And.intro (mk) (And.intro (ixg) (And.intro (stg) (e3)))))))))
    repeat first
      | ((with_reducible apply ends_bind); case h => first | (simp only [stp, stq]; first | done | rfl) | rfl)
      | ((with_reducible apply ends_t); case h => first | rfl | (simp only [stp, stq]; done))
      | ((with_reducible apply ends_f); case h => first | rfl | (simp only [stp, stq]; done))
    refine ends_some (.inl ⟨rfl, r - 1, by omega, i + 1, y4, sh ++ [(y2.length, bk c1 i)], _, _, _, _, _, _, by first | rfl | (rw [← e3]; rfl), by omega, D4, hO4, S4, by simp [hl], fun k hk => ?_⟩)
    by_cases e : k < sh.length
    · rw [List.getElem_append_left e]
      exact hsh k e
    · have : k = sh.length := by simp at hk; omega
      subst this
      rw [List.getElem_append_right (Nat.le_refl _)]
      simp [hl]
  · have g1 : decide ((i : Int) < 8) = false := decide_eq_false (by omega)
    have stq := (g1)
    repeat first
      | ((with_reducible apply ends_bind); case h => first | (simp only [stp, stq]; first | done | rfl) | rfl)
      | ((with_reducible apply ends_t); case h => first | rfl | (simp only [stp, stq]; done))
      | ((with_reducible apply ends_f); case h => first | rfl | (simp only [stp, stq]; done))
    exact ends_some (.inr (.inl ⟨2, rfl, X_l04_DiskFlushed_1_0_lit (stage2 D1 hO1 S1 (by omega) hsh A1 hk _ _ _ _ _ _ _ _)⟩))
theorem flushed_ev {x0 x1 x2 : AV} {L0 L1 : List (Int × List UInt8)} {ks : List Int} (A0 : Acts x0 L0) (A1 : Acts x1 L1) (hk : ∀ bx s, keepA bx s x2 = some ks) : cf (evFn cx0 ext0 1000) 3 [x0, x1, x2] = some (.v (.bool true)) := by
  have cw : callA E9 md_l04_DiskFlushed [] 6 [] = some (.v (.bool true), []) := by kernel_rfl
  have cn : callA E9 md_l04_DiskFlushed [] 7 [.v (.int .i64 8), .v (.pointer none)] = some (.tup [.bp 2 0, .v (.int .i64 0)], [u8l (List.replicate 512 0), [stH 0 []], [nilP, .bsl 0 0 8 64, .mp 1, .v (.int .i64 0)]]) := by kernel_rfl
  unfold cf
  rw [E_l04_DiskFlushed]
  refine ends_cf (P := Try.prog) ?_
  unfold F_l04_DiskFlushed
  have stq := (And.intro (cw) (cn))
  repeat first
    | ((with_reducible apply ends_bind); case h => first | (simp only [stp, stq]; first | done | rfl) | rfl)
    | ((with_reducible apply ends_t); case h => first | rfl | (simp only [stp, stq]; done))
    | ((with_reducible apply ends_f); case h => first | rfl | (simp only [stp, stq]; done))
  have D0 : DB (fun j => j < 3) [u8l (List.replicate 512 0), [stH 0 []], [nilP, .bsl 0 0 8 64, .mp 1, .v (.int .i64 0)]] 2 0 8 1 0 nilP 0 (List.replicate 512 0) [] [] :=
    ⟨rfl, rfl, List.length_replicate .., rfl, fun b hb => (by cases hb), .nil, rfl, fun q hq => (by cases hq), .nil, .nil, ⟨by omega, by omega, by omega⟩, ⟨by omega, by omega, by omega⟩⟩
  have G0 : Pr0.Good [u8l (List.replicate 512 0), [stH 0 []], [nilP, .bsl 0 0 8 64, .mp 1, .v (.int .i64 0)]] := fun l hl => by
    simp only [List.mem_cons, List.not_mem_nil, or_false] at hl
    rcases hl with rfl | rfl | rfl
    · exact eqCs_u8l _
    · exact Pr0.eqCs_map 0 [] []
    · exact Pr0.eqCs_d rfl 0 8 1 0
  generalize hbx : ([u8l (List.replicate 512 0), [stH 0 []], [nilP, .bsl 0 0 8 64, .mp 1, .v (.int .i64 0)]] : Bx) = bx at *
  refine ends_loop (n := 999) (fun r t => ∃ (i : Nat) (y : Bx) (O : Nat → Prop) (cl : Nat) (z : Int) (c : List UInt8) (bs : List Nat) (ws : Ws) (x22 x6 : AV), t = ⟨[(9, .v (.int .i64 i)), (7, .bp 2 0), (22, x22), (6, x6), (0, x0), (1, x1), (2, x2)], y⟩ ∧
      i + r = 40 ∧ DB O y 2 0 8 1 cl nilP z c bs ws ∧ (∀ j, O j → j < y.length) ∧ Pr0.Good y ∧ (∀ j, (wl ws j).length ≤ 64 * i)) 40 (by omega)
    ⟨0, bx, _, 0, 0, _, [], [], _, _, rfl, by omega, D0, fun j hj => by rw [← hbx]; exact hj, G0, fun j => by rw [show wl [] j = [] from rfl]; simp⟩ ?_
  rintro r t ⟨i, y, O, cl, z, c, bs, ws, x22, x6, rfl, hir, D, hO, hg, hw⟩
  refine L_l04_DiskFlushed_0_lit ?_
  unfold B_l04_DiskFlushed_0
  have ln := A0.ln
  by_cases hi : i < L0.length
  · have g1 : decide ((i : Int) < (L0.length : Int)) = true := decide_eq_true (by omega)
    by_cases hi4 : i < 40
    · have g2 : decide ((i : Int) < 40) = true := decide_eq_true (by omega)
      obtain ⟨a, a1, a2, ix, fa1, fa2, la, lb, hbl⟩ := A0.ix i hi
      generalize L0[i] = act at *
      obtain ⟨at_, b⟩ := act
      simp only at la lb hbl
      obtain ⟨k, hk8, ham⟩ := among_ev 998 at_ 8 (by omega) (by omega)
      have ca : ∀ y, callA E9 md_l04_DiskFlushed y 9 [.v (.int .i64 at_), .v (.int .i64 8)] = some (.v (.int .i64 k), y) := by
        intro y
        rw [callA_frozen rfl]
        show (cf E9 9 [.v (.int .i64 at_), .v (.int .i64 8)]).map _ = _
        rw [show cf E9 9 [.v (.int .i64 at_), .v (.int .i64 8)] = some (.v (.int .i64 k)) from ham]
        rfl
      obtain ⟨y1, O', cl', bs', ws', ew, D', hwl, _, hO1, hO2, fr, hlen, hg'⟩ := write_cl 998 D hO hk8 hbl (by have := hw k; omega)
      have cw : callA E9 md_l04_DiskFlushed y 8 [.bp 2 0, .v (.int .i64 k), .agg (u8l b)] = some (.v (.int .i64 0), y1) := by rw [Pr0.call_k rfl]; exact ew
      have e3 : IntKind.i64.wrap ((i : Int) + 1) = ((i + 1 : Nat) : Int) := by rw [wrap64]; omega
      have stq := (And.intro (ln) (And.intro (g1) (And.intro (g2) (And.intro (ix) (And.intro (fa1) (And.intro (fa2) (And.intro (la) (And.intro (lb) (And.intro (ca) (And.intro (cw) (e3)))))))))))
      repeat first
        | ((with_reducible apply ends_bind); case h => first | (simp only [stp, stq]; first | done | rfl) | rfl)
        | ((with_reducible apply ends_t); case h => first | rfl | (simp only [stp, stq]; done))
        | ((with_reducible apply ends_f); case h => first | rfl | (simp only [stp, stq]; done))
      refine ends_some (.inl ⟨rfl, r - 1, by omega, i + 1, y1, O', cl', _, c, bs', ws', _, _, by first | rfl | (rw [← e3]; rfl), by omega, D', hO2, hg' hg, fun j => ?_⟩)
      rw [hwl]
      split
      · rw [List.length_append, hbl]
        have := hw k
        omega
      · have := hw j
        omega
    · have g2 : decide ((i : Int) < 40) = false := decide_eq_false (by omega)
      have stq := (And.intro (ln) (And.intro (g1) (g2)))
      repeat first
        | ((with_reducible apply ends_bind); case h => first | (simp only [stp, stq]; first | done | rfl) | rfl)
        | ((with_reducible apply ends_t); case h => first | rfl | (simp only [stp, stq]; done))
        | ((with_reducible apply ends_f); case h => first | rfl | (simp only [stp, stq]; done))
      exact ends_some (.inr (.inl ⟨0, rfl, X_l04_DiskFlushed_0_0_lit (stage1 D hO hg A1 hk _ _ _ _ _)⟩))
  · have g1 : decide ((i : Int) < (L0.length : Int)) = false := decide_eq_false (by omega)
    have stq := (And.intro (ln) (g1))
    repeat first
      | ((with_reducible apply ends_bind); case h => first | (simp only [stp, stq]; first | done | rfl) | rfl)
      | ((with_reducible apply ends_t); case h => first | rfl | (simp only [stp, stq]; done))
      | ((with_reducible apply ends_f); case h => first | rfl | (simp only [stp, stq]; done))
    exact ends_some (.inr (.inl ⟨0, rfl, X_l04_DiskFlushed_0_0_lit (stage1 D hO hg A1 hk _ _ _ _ _)⟩))
end Go.Sy
