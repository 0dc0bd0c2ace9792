/-
  The law DiskPlays: both disks show the same. The law DiskPlays as the reader reads it.
-/
import Derived.Test.YtijmfjpcjceejaaPlDo
import Derived.Test.YtijmfjpcjceejaaSyUpto
namespace Go.Sy
open Go.Proofs
open Go.Sy.Pr0 (wl DB nilP)

noncomputable abbrev EP : FnA := evFn cx0 ext0 2060
theorem St.sh_len {I : Ids} {R : Nat → Prop} {bx : Bx} {a : St} (Y : YB I R bx a) {i : Nat} (hi : i < I.n) : (a.sh i).length = 64 := by
  obtain ⟨wt, B, hw⟩ := Y
  have h := B.shl hi
  unfold shr at h
  rw [hw] at h
  exact h
theorem mn12 (n : Nat) : minL false (.v (.int .i64 (n : Int))) [.v (.int .i64 12)] = some (.v (.int .i64 ((min n 12 : Nat) : Int))) := by
  have : (if (12 : Int) < (n : Int) then (12 : Int) else (n : Int)) = ((min n 12 : Nat) : Int) := by
    split <;> omega
  show some (AV.v (.int .i64 (if (12 : Int) < (n : Int) then (12 : Int) else (n : Int)))) = _
  rw [this]
section
variable {I : Ids} {a : St}
/-- a round: both are read, and what waits is counted -/
theorem reads {y : Bx} (hJ : J I y a a) (k : Int) : ∃ (y1 y2 y3 y4 y5 : Bx) (v : List UInt8) (e w : Int) (b1 b2 : Nat),
    callA EP md_l04_DiskPlays y 11 [.bp I.d 0, .v (.int .i64 k)] = some (.tup [.agg (u8l v), .v (.int .i64 e)], y1) ∧ allocA Try.prog y1 32 = some (.bp b1 0, y2) ∧ stA Try.prog 32 y2 (.bp b1 0) (.agg (u8l v)) = some (.v undef, y3) ∧
    (∃ y3', callA EP md_l04_DiskPlays y3 24 [.bp I.ry 0, .v (.int .i64 k)] = some (.tup [.agg (u8l v), .v (.int .i64 e)], y3') ∧ allocA Try.prog y3' 32 = some (.bp b2 0, y4) ∧ stA Try.prog 32 y4 (.bp b2 0) (.agg (u8l v)) = some (.v undef, y5)) ∧
    loadA Try.prog 32 y5 (.bp b1 0) = some (.agg (u8l v)) ∧ loadA Try.prog 32 y5 (.bp b2 0) = some (.agg (u8l v)) ∧ v.length = 64 ∧
    callA EP md_l04_DiskPlays y5 13 [.bp I.d 0, .v (.int .i64 k)] = some (.v (.int .i64 w), y5) ∧ w = (if 0 ≤ k ∧ k < (I.n : Int) then (((a.w k.toNat).length / 64 : Nat) : Int) else 0) ∧ J I y5 a a := by
  have hJ0 := hJ
  obtain ⟨T, R, X, Y, hd, hg⟩ := hJ
  obtain ⟨t, ht, e1⟩ := xread 2059 X k
  obtain ⟨v, e, hv, hx, hy⟩ : ∃ (v : List UInt8) (e : Int), v.length = 64 ∧ evFn cx0 ext0 (2059 + 1) 11 [.bp I.d 0, .v (.int .i64 k)] y = some (.tup [.agg (u8l v), .v (.int .i64 e)], y ++ t) ∧
      ∀ z, YB I R z a → evFn cx0 ext0 (2058 + 2) 24 [.bp I.ry 0, .v (.int .i64 k)] z = some (.tup [.agg (u8l v), .v (.int .i64 e)], z ++ [u8l v]) := by
    by_cases hk : 0 ≤ k ∧ k < (I.n : Int)
    · refine ⟨a.sh k.toNat, 0, St.sh_len Y (by omega), by rw [e1, if_pos hk], fun z hz => ?_⟩
      rw [yread 2058 hz k, if_pos hk]
    · refine ⟨List.replicate 64 0, 2, by simp, by rw [e1, if_neg hk], fun z hz => ?_⟩
      rw [yread 2058 hz k, if_neg hk]
  have al := al_a hB (P := Try.prog)
  have stz : ∀ z : Bx, stA Try.prog 32 (z ++ [u8l (List.replicate 64 0)]) (.bp z.length 0) (.agg (u8l v)) = some (.v undef, z ++ [u8l v]) := fun z => by
    rw [st_a hB (bx := z ++ [u8l (List.replicate 64 0)]) (k := z.length) (b := List.replicate 64 0) (c := v) (by simp) (by simp) hv]
    simp
  have gv1 := Pr0.Good.b1 v
  have J1 : J I (y ++ t) a a := hJ0.app ht
  have J2 : J I (y ++ t ++ [u8l v]) a a := J1.app gv1
  have J3 : J I (y ++ t ++ [u8l v] ++ [u8l v]) a a := J2.app gv1
  have J4 : J I (y ++ t ++ [u8l v] ++ [u8l v] ++ [u8l v]) a a := J3.app gv1
  have Y2 : YB I R (y ++ t ++ [u8l v]) a := (Y.app t).app _
  obtain ⟨T4, R4, X4, Y4, _, _⟩ := id J4
  refine ⟨y ++ t, _, _, _, _, v, e, _, _, _, by rw [Pr0.call_k rfl]; exact hx, al _, stz _, ⟨_, by rw [Pr0.call_k rfl]; exact hy _ Y2, al _, stz _⟩, ld_a hB ?_ hv, ld_a hB ?_ hv, hv, by rw [Pr0.call_k rfl]; exact xwaits 2059 X4 k, rfl, J4⟩
  · rw [List.getElem?_append_left (by simp), List.getElem?_append_left (by simp)]
    simp
  · simp
theorem inner {i : Int} {x94 x54 x42 x10 x8 x4 x0 x1 : AV} {y : Bx} {Q : Ex → S → Prop} {K : S → Option (Ex × S)} (hJ : J I y a a)
    (hQ : ∀ (y' : Bx), J I y' a a → ∀ x103 x12 x94 x54 x42 x10 x8 x4 x0, Ends (X_l04_DiskPlays_1_0 EP 2060 0 x103 x12 x94 x54 (.v (.int .i64 i)) x42 x10 (.bp I.ry 0) x8 (.bp I.d 0) (.bp I.rq 0) (.bp I.ps 0) x4 x0 x1 y') Q) :
    Ends (exitA (iter (headK ⟨[(12, .v (.int .i64 (-1))), (94, x94), (54, x54), (11, .v (.int .i64 i)), (42, x42), (10, x10), (9, .bp I.ry 0), (8, x8), (7, .bp I.d 0), (6, .bp I.rq 0), (5, .bp I.ps 0), (4, x4), (0, x0), (1, x1)], y⟩) (L_l04_DiskPlays_1 EP 2060 0) 2060
      ⟨[(12, .v (.int .i64 (-1))), (94, x94), (54, x54), (11, .v (.int .i64 i)), (42, x42), (10, x10), (9, .bp I.ry 0), (8, x8), (7, .bp I.d 0), (6, .bp I.rq 0), (5, .bp I.ps 0), (4, x4), (0, x0), (1, x1)], y⟩) K (X_l04_DiskPlays_1 EP 2060 0)) Q := by
  refine ends_loop (n := 2060) (fun r t => ∃ (k : Int) (by_ : Bx) (x94 x54 x42 x10 x8 x4 x0 : AV), t = ⟨[(12, .v (.int .i64 k)), (94, x94), (54, x54), (11, .v (.int .i64 i)), (42, x42), (10, x10), (9, .bp I.ry 0), (8, x8), (7, .bp I.d 0), (6, .bp I.rq 0), (5, .bp I.ps 0), (4, x4), (0, x0), (1, x1)], by_⟩ ∧ -1 ≤ k ∧ k + r = (min I.n 12 : Nat) + 1 ∧ J I by_ a a) (min I.n 12 + 2) (by omega) ⟨-1, y, _, _, _, _, _, _, _, rfl, by omega, by omega, hJ⟩ ?_
  rintro r t ⟨k, by_, x94, x54, x42, x10, x8, x4, x0, rfl, hk0, hkr, hJ⟩
  refine L_l04_DiskPlays_1_lit ?_
  unfold B_l04_DiskPlays_1
  have hJ0 := hJ
  obtain ⟨T, R, X, Y, hd, hg⟩ := hJ0
  have nl := nl I.ry
  have fa := fa57 I.ry
  have ld1 : loadA Try.prog 35 by_ (.bp I.ry 1) = some (.bsl I.rs 0 I.n 64) := by obtain ⟨wt, B, hw⟩ := Y; exact B.ld.2.1
  have ln := ln_bb I.rs I.n 64
  have mn := mn12 I.n
  have ew : IntKind.i64.wrap (((min I.n 12 : Nat) : Int) + 1) = ((min I.n 12 : Nat) : Int) + 1 := by rw [wrap64]; omega
  by_cases hlt : k < ((min I.n 12 : Nat) : Int) + 1
  · have g1 : decide (k < ((min I.n 12 : Nat) : Int) + 1) = true := decide_eq_true hlt
    obtain ⟨y1, y2, y3, y4, y5, v, e, w, b1, b2, r1, r2, r3, ⟨y3', r4, r5, r6⟩, l1, l2, hv, wt, hw, hJ5⟩ := reads hJ k
    have hJ5' := hJ5
    obtain ⟨T5, R5, X5, Y5, _, _⟩ := hJ5'
    have nv := (eq_a hB (P := Try.prog) hv hv).2
    have vv : (v == v) = true := by simp
    rw [vv] at nv
    have nt : (!true) = false := rfl
    have ee : (e != e) = false := by simp
    have ek : IntKind.i64.wrap (k + 1) = k + 1 := by rw [wrap64]; omega
    by_cases hin : 0 ≤ k ∧ k < (I.n : Int)
    · obtain ⟨j, rfl⟩ : ∃ j : Nat, k = j := ⟨k.toNat, by omega⟩
      have ga : decide ((0 : Int) ≤ (j : Int)) = true := decide_eq_true (by omega)
      have gb : decide ((j : Int) < (I.n : Int)) = true := decide_eq_true (by omega)
      obtain ⟨wl5, B5, hw5⟩ := Y5
      have ld2 := B5.ld.2.2.1
      have lnw := ln_ws I.rw_ I.n
      have ixw := ix_w I.rw_ I.n j (by omega)
      obtain ⟨x, hx, hwx⟩ := B5.at (i := j) (by omega)
      have lw := B5.ldw hx
      have lx := ln_w x
      rw [← hwx, hw5] at lx
      rw [if_pos hin, Int.toNat_natCast] at hw
      subst hw
      have ww : ((((a.w j).length / 64 : Nat) : Int) != (((a.w j).length / 64 : Nat) : Int)) = false := by simp
      have stq := (And.intro (nl) (And.intro (fa) (And.intro (ld1) (And.intro (ln) (And.intro (mn) (And.intro (ew) (And.intro (g1) (And.intro (r1) (And.intro (r2) (And.intro (r3) (And.intro (r4) (And.intro (r5) (And.intro (r6) (And.intro (ga) (And.intro (gb) (And.intro (ld2) (And.intro (lnw) (And.intro (ixw) (And.intro (lw) (And.intro (lx) (And.intro (l1) (And.intro (l2) (And.intro (nv) (And.intro (nt) (And.intro (ee) (And.intro (wt) (And.intro (ww) (ek))))))))))))))))))))))))))))
      repeat first
        | ((with_reducible apply ends_bind); case h => first | (simp only [stp, stq]; first | done | rfl) | rfl)
        | ((with_reducible apply ends_t); case h => first | rfl | (simp only [stp, stq]; done))
        | ((with_reducible apply ends_f); case h => first | rfl | (simp only [stp, stq]; done))
      exact ends_some (.inl ⟨rfl, r - 1, by omega, j + 1, y5, _, _, _, _, _, _, _, rfl, by omega, by omega, hJ5⟩)
    · rw [if_neg hin] at hw
      subst hw
      have ww : ((0 : Int) != 0) = false := rfl
      by_cases h0 : 0 ≤ k
      · have ga : decide ((0 : Int) ≤ k) = true := decide_eq_true h0
        have gb : decide (k < (I.n : Int)) = false := decide_eq_false fun h => hin ⟨h0, h⟩
        have ld2 : loadA Try.prog 55 y5 (.bp I.ry 2) = some (.bsl I.rw_ 0 I.n 1) := by obtain ⟨wt, B, hw⟩ := Y5; exact B.ld.2.2.1
        have lnw := ln_ws I.rw_ I.n
        have stq := (And.intro (nl) (And.intro (fa) (And.intro (ld1) (And.intro (ln) (And.intro (mn) (And.intro (ew) (And.intro (g1) (And.intro (r1) (And.intro (r2) (And.intro (r3) (And.intro (r4) (And.intro (r5) (And.intro (r6) (And.intro (ga) (And.intro (gb) (And.intro (ld2) (And.intro (lnw) (And.intro (l1) (And.intro (l2) (And.intro (nv) (And.intro (nt) (And.intro (ee) (And.intro (wt) (And.intro (ww) (ek)))))))))))))))))))))))))
        repeat first
          | ((with_reducible apply ends_bind); case h => first | (simp only [stp, stq]; first | done | rfl) | rfl)
          | ((with_reducible apply ends_t); case h => first | rfl | (simp only [stp, stq]; done))
          | ((with_reducible apply ends_f); case h => first | rfl | (simp only [stp, stq]; done))
        exact ends_some (.inl ⟨rfl, r - 1, by omega, k + 1, y5, _, _, _, _, _, _, _, rfl, by omega, by omega, hJ5⟩)
      · have ga : decide ((0 : Int) ≤ k) = false := decide_eq_false h0
        have stq := (And.intro (nl) (And.intro (fa) (And.intro (ld1) (And.intro (ln) (And.intro (mn) (And.intro (ew) (And.intro (g1) (And.intro (r1) (And.intro (r2) (And.intro (r3) (And.intro (r4) (And.intro (r5) (And.intro (r6) (And.intro (ga) (And.intro (l1) (And.intro (l2) (And.intro (nv) (And.intro (nt) (And.intro (ee) (And.intro (wt) (And.intro (ww) (ek))))))))))))))))))))))
        repeat first
          | ((with_reducible apply ends_bind); case h => first | (simp only [stp, stq]; first | done | rfl) | rfl)
          | ((with_reducible apply ends_t); case h => first | rfl | (simp only [stp, stq]; done))
          | ((with_reducible apply ends_f); case h => first | rfl | (simp only [stp, stq]; done))
        exact ends_some (.inl ⟨rfl, r - 1, by omega, k + 1, y5, _, _, _, _, _, _, _, rfl, by omega, by omega, hJ5⟩)
  · have g1 : decide (k < ((min I.n 12 : Nat) : Int) + 1) = false := decide_eq_false hlt
    have stq := (And.intro (nl) (And.intro (fa) (And.intro (ld1) (And.intro (ln) (And.intro (mn) (And.intro (ew) (g1)))))))
    repeat first
      | ((with_reducible apply ends_bind); case h => first | (simp only [stp, stq]; first | done | rfl) | rfl)
      | ((with_reducible apply ends_t); case h => first | rfl | (simp only [stp, stq]; done))
      | ((with_reducible apply ends_f); case h => first | rfl | (simp only [stp, stq]; done))
    exact ends_some (.inr (.inl ⟨2, rfl, X_l04_DiskPlays_1_0_lit (hQ by_ hJ _ _ _ _ _ _ _ _ _)⟩))
theorem cf_dfn {f : FuncId} {args : List AV} {r : AV} (k : Nat) (h1 : f ≠ 12) (h2 : f ≠ 10) (h3 : f ≠ 26) (h4 : Pr0.dfn.contains f = true) (h : cf (evFn Pr0.cx0 Pr0.ext0 (999 + 1)) f args = some r) : cf (evFn cx0 ext0 (k + 1)) f args = some r := by
  unfold cf at h ⊢
  rw [Option.map_eq_some_iff] at h
  obtain ⟨x, hx, rfl⟩ := h
  rw [ev_dfn k h1 h2 h3 h4 hx]
  rfl
theorem works_p : cf EP 6 [] = some (.v (.bool true)) := by kernel_rfl
abbrev QP := RetQ Try.prog [.tmp 4] (.v (.bool true))
theorem last (x54 x11 x42 x10 x9 x8 x7 x6 x5 x4 x0 x1 : AV) (y : Bx) : Ends (X_l04_DiskPlays_0_0 EP 2060 0 x54 x11 x42 x10 x9 x8 x7 x6 x5 x4 x0 x1 y) QP := by
  have cw : callA EP md_l04_DiskPlays y 6 [] = some (.v (.bool true), y) := by
    rw [callA_frozen rfl]
    show (cf EP 6 []).map _ = _
    rw [works_p]
    rfl
  unfold X_l04_DiskPlays_0_0
  have stq := (cw)
  repeat first
    | ((with_reducible apply ends_bind); case h => first | (simp only [stp, stq]; first | done | rfl) | rfl)
    | ((with_reducible apply ends_t); case h => first | rfl | (simp only [stp, stq]; done))
    | ((with_reducible apply ends_f); case h => first | rfl | (simp only [stp, stq]; done))
  exact ends_some ⟨.inl rfl, _, rfl, rfl⟩
theorem x_calls {T : Nat → Prop} {y : Bx} (X : XB I T y a) : callA EP md_l04_DiskPlays y 17 [.bp I.d 0] = some (.v (.int .i64 a.z), y) ∧ callA EP md_l04_DiskPlays y 16 [.bp I.d 0] = some (.v (.int .i64 I.n), y) ∧ callA EP md_l04_DiskPlays y 23 [.bp I.ps 0] = some (.v (.bool a.g), y) := by
  obtain ⟨O, cl, bs, ws, D, hp, hO, hT, hlt, hw⟩ := X
  have fz := Pr0.d_frz D.hd D.slt
  refine ⟨?_, ?_, ?_⟩
  · rw [callA_frozen rfl, fz, cf_dfn 2059 (by decide) (by decide) (by decide) (by decide) (Pr0.writes_raw 999 _ _ _ _ _)]
    rfl
  · rw [callA_frozen rfl, fz, cf_dfn 2059 (by decide) (by decide) (by decide) (by decide) (Pr0.len_raw 999 _ _ _ _ _)]
    rfl
  · have fp : ([.bp I.ps 0] : List AV).map (frz y true 6) = [.ip (sup a.l a.u a.g) true] := by
      simp only [List.map_cons, List.map_nil, frz, hp, List.drop_zero, Go.Sy.sup]
    rw [callA_frozen rfl, fp, show cf EP 23 [.ip (sup a.l a.u a.g) true] = _ from pgone 2059 a.l a.u a.g true]
    rfl
theorem asl_ix {L : List Ac} (h : ∀ A ∈ L, A.b.length = 64) (i : Nat) (hi : i < L.length) : ∃ p, indexAddrA Try.prog 22 (asl L) (.v (.int .i64 i)) = some p ∧ ∀ bx, loadA Try.prog 34 bx p = some (.agg (ac L[i])) := by
  have t22 : isSl Try.prog 22 = true ∧ elA Try.prog 22 = some 34 ∧ szA Try.prog 34 = some 67 ∧ agA Try.prog 34 = some true := ⟨by kernel_rfl, by kernel_rfl, by kernel_rfl, by kernel_rfl⟩
  have hb := h _ (List.getElem_mem hi)
  obtain ⟨r, hr⟩ := acs_drop h i hi
  generalize L[i] = A at *
  refine ⟨.ip (ac A ++ r) true, ?_, fun bx => ?_⟩
  · unfold indexAddrA asl
    simp only [t22.1, if_true, t22.2.1, t22.2.2.1, Option.bind_some, idxI]
    rw [if_pos ⟨by omega, by omega⟩, Option.bind_some, if_pos (by rw [acs_len h]; exact Nat.le_refl _)]
    rw [show 0 + ((i : Int)).toNat * 67 = i * 67 by simp, hr]
  · unfold loadA partA
    simp only [t22.2.2.1, t22.2.2.2]
    rw [if_pos (by rw [List.length_append, ac_len hb]; omega), List.drop_zero, List.take_left' (ac_len hb)]
theorem outer {L : List Ac} (hL : ∀ A ∈ L, A.b.length = 64 ∧ A.ks.length * 8 ≤ 2 ^ 47) (hn : 1 ≤ I.n ∧ I.n ≤ 2048) {x42 x10 x8 x4 x0 : AV} {y : Bx} {K : S → Option (Ex × S)} (hJ : J I y a a) (hw : ∀ j, a.w j = []) :
    Ends (exitA (iter (headK ⟨[(11, .v (.int .i64 0)), (42, x42), (10, x10), (9, .bp I.ry 0), (8, x8), (7, .bp I.d 0), (6, .bp I.rq 0), (5, .bp I.ps 0), (4, x4), (0, x0), (1, asl L)], y⟩) (L_l04_DiskPlays_0 EP 2060 0) 2060
      ⟨[(11, .v (.int .i64 0)), (42, x42), (10, x10), (9, .bp I.ry 0), (8, x8), (7, .bp I.d 0), (6, .bp I.rq 0), (5, .bp I.ps 0), (4, x4), (0, x0), (1, asl L)], y⟩) K (X_l04_DiskPlays_0 EP 2060 0)) QP := by
  refine ends_loop (n := 2060) (fun r t => ∃ (i : Nat) (by_ : Bx) (a : St) (x42 x10 x8 x4 x0 : AV), t = ⟨[(11, .v (.int .i64 i)), (42, x42), (10, x10), (9, .bp I.ry 0), (8, x8), (7, .bp I.d 0), (6, .bp I.rq 0), (5, .bp I.ps 0), (4, x4), (0, x0), (1, asl L)], by_⟩ ∧ i + r = 60 ∧ J I by_ a a ∧ ∀ j, (a.w j).length ≤ 64 * i) 60 (by omega) ⟨0, y, a, _, _, _, _, _, rfl, by omega, hJ, fun j => by rw [hw]; simp⟩ ?_
  clear hJ hw
  rintro r t ⟨i, by_, a, x42, x10, x8, x4, x0, rfl, hir, hJ, hw⟩
  refine L_l04_DiskPlays_0_lit ?_
  unfold B_l04_DiskPlays_0
  have lnL : lenA Try.prog 22 (asl L) = some (.v (.int .i64 L.length)) := by
    have h0 : ∀ (n : Nat) (l : List AV), lenA Try.prog 22 (.sl n l true) = some (.v (.int .i64 n)) := by intro n l; kernel_rfl
    exact h0 _ _
  have nq : binA Try.prog .neq 51 (.bp I.ry 0) nilP = some (.v (.bool true)) := by kernel_rfl
  by_cases h1 : i < L.length
  · have g1 : decide ((i : Int) < (L.length : Int)) = true := decide_eq_true (by omega)
    by_cases h2 : i < 60
    · have g2 : decide ((i : Int) < 60) = true := decide_eq_true (by omega)
      have hA := hL _ (List.getElem_mem h1)
      obtain ⟨p, ix, lp⟩ := asl_ix (fun A h => (hL A h).1) i h1
      obtain ⟨y1, a', e1, J1, hw1⟩ := do_ev (k := 2057) (by omega) hn hJ hA.1 hA.2 h2 hw
      have c1 : callA EP md_l04_DiskPlays by_ 22 [.bp I.d 0, .bp I.ry 0, .bp I.ps 0, .bp I.rq 0, .agg (ac L[i])] = some (.v (.bool true), y1) := by rw [Pr0.call_k rfl]; exact e1
      have J1' := J1
      obtain ⟨T, R, X, Y, hd, hg⟩ := J1'
      obtain ⟨cw, cl, cg⟩ := x_calls X
      obtain ⟨wt, B, hwt⟩ := Y
      have nl1 := nl I.ry
      have nl2 := nl I.rq
      have fa := fa57 I.ry
      have fq := fa59 I.rq
      have ld := B.ld
      have lq := lds3 B.hp
      have ln := ln_bb I.rs I.n 64
      have zz : (a'.z != a'.z) = false := by simp
      have nn : ((I.n : Int) != (I.n : Int)) = false := by simp
      have gg : (a'.g == a'.g) = true := by simp
      have nt : (!true) = false := rfl
      generalize ac L[i] = A at *
      generalize hxL : asl L = xL at *
      have stq := (And.intro (lnL) (And.intro (g1) (And.intro (g2) (And.intro (nq) (And.intro (ix) (And.intro (lp) (And.intro (c1) (And.intro (cw) (And.intro (cl) (And.intro (cg) (And.intro (nl1) (And.intro (nl2) (And.intro (fa) (And.intro (fq) (And.intro (ld) (And.intro (lq) (And.intro (ln) (And.intro (zz) (And.intro (nn) (And.intro (gg) (nt)))))))))))))))))))))
      repeat first
        | ((with_reducible apply ends_bind); case h => first | (simp only [stp, stq]; first | done | rfl) | rfl)
        | ((with_reducible apply ends_t); case h => first | rfl | (simp only [stp, stq]; done))
        | ((with_reducible apply ends_f); case h => first | rfl | (simp only [stp, stq]; done))
      refine inner J1 ?_
      clear c1 e1 cw cl cg ld lq B hd hg X J1
      intro y2 J2 x103 x12 x94 x54 x42 x10 x8 x4 x0
      have J2' := J2
      obtain ⟨T, R, X, Y, hd, hg⟩ := J2'
      have e3 := ximage 2059 X hn.1 hn.2
      have c3 : callA EP md_l04_DiskPlays y2 18 [.bp I.d 0] = some (.bsl (y2.length + 1) 0 I.n 64, y2 ++ [[], u8l a'.c]) := by rw [Pr0.call_k rfl]; exact e3
      have gt : Pr0.Good [[], u8l a'.c] := fun l hl => by
        simp only [List.mem_cons, List.not_mem_nil, or_false] at hl
        rcases hl with rfl | rfl
        · rfl
        · exact eqCs_u8l _
      have J3 := J2.app gt
      have hb3 : (y2 ++ [[], u8l a'.c])[y2.length + 1]? = some (u8l a'.c) := by
        rw [List.getElem?_append_right (by omega), show y2.length + 1 - y2.length = 1 by omega]
        rfl
      have hcl : a'.c.length = I.n * 64 := by obtain ⟨O, cl, bs, ws, D, _⟩ := X; exact D.hc
      obtain ⟨wt, B, hwt⟩ := Y.app [[], u8l a'.c]
      have ld := B.ld
      have hs := B.hs
      have ix0 : ∀ b : Nat, indexAddrA Try.prog 35 (.bsl b 0 I.n 64) (.v (.int .i64 0)) = some (.bp b 0) := fun b => by
        have := ix_bb b I.n 0 .i64 (by omega)
        simpa using this
      have lb0 : ∀ {b : Nat}, (y2 ++ [[], u8l a'.c])[b]? = some (u8l a'.c) → loadA Try.prog 32 (y2 ++ [[], u8l a'.c]) (.bp b 0) = some (.agg (u8l (bk a'.c 0))) := fun {b} h => by
        have := ld_bb (j := 0) (k := I.n) h hcl (by omega)
        simpa using this
      have l1 := lb0 hb3
      have l2 := lb0 hs
      have ln2 := ln_bb (y2.length + 1) I.n 64
      have hbl : (bk a'.c 0).length = 64 := bk_len (n := I.n) (by omega) hcl
      have nv := (eq_a hB (P := Try.prog) hbl hbl).2
      have vv : (bk a'.c 0 == bk a'.c 0) = true := by simp
      rw [vv] at nv
      have ei : IntKind.i64.wrap ((i : Int) + 1) = ((i + 1 : Nat) : Int) := by rw [wrap64]; omega
      generalize y2 ++ [[], u8l a'.c] = y3 at *
      unfold X_l04_DiskPlays_1_0
      have stq := (And.intro (c3) (And.intro (ln2) (And.intro (nl1) (And.intro (fa) (And.intro (ld) (And.intro (ln) (And.intro (nn) (And.intro (ix0) (And.intro (l1) (And.intro (l2) (And.intro (nv) (And.intro (nt) (ei)))))))))))))
      repeat first
        | ((with_reducible apply ends_bind); case h => first | (simp only [stp, stq]; first | done | rfl) | rfl)
        | ((with_reducible apply ends_t); case h => first | rfl | (simp only [stp, stq]; done))
        | ((with_reducible apply ends_f); case h => first | rfl | (simp only [stp, stq]; done))
      exact ends_some (.inl ⟨rfl, r - 1, by omega, i + 1, y3, a', _, _, _, _, _, by first | rfl | (rw [← ei]; rfl), by omega, J3, hw1⟩)
    · have g2 : decide ((i : Int) < 60) = false := decide_eq_false (by omega)
      generalize hxL : asl L = xL at *
      have stq := (And.intro (lnL) (And.intro (g1) (g2)))
      repeat first
        | ((with_reducible apply ends_bind); case h => first | (simp only [stp, stq]; first | done | rfl) | rfl)
        | ((with_reducible apply ends_t); case h => first | rfl | (simp only [stp, stq]; done))
        | ((with_reducible apply ends_f); case h => first | rfl | (simp only [stp, stq]; done))
      exact ends_some (.inr (.inl ⟨0, rfl, X_l04_DiskPlays_0_0_lit (last _ _ _ _ _ _ _ _ _ _ _ _ _)⟩))
  · have g1 : decide ((i : Int) < (L.length : Int)) = false := decide_eq_false (by omega)
    generalize hxL : asl L = xL at *
    have stq := (And.intro (lnL) (g1))
    repeat first
      | ((with_reducible apply ends_bind); case h => first | (simp only [stp, stq]; first | done | rfl) | rfl)
      | ((with_reducible apply ends_t); case h => first | rfl | (simp only [stp, stq]; done))
      | ((with_reducible apply ends_f); case h => first | rfl | (simp only [stp, stq]; done))
    exact ends_some (.inr (.inl ⟨0, rfl, X_l04_DiskPlays_0_0_lit (last _ _ _ _ _ _ _ _ _ _ _ _ _)⟩))
end
end Go.Sy

namespace Go.Sy
open Go.Proofs
open Go.Sy.Pr0 (wl DB nilP)

theorem pnew (k : Nat) (bx : Bx) : evFn cx0 ext0 (k + 1) 19 [] bx = some (.bp bx.length 0, bx ++ [sup (-1) 0 false]) := by
  have bd : buildA Try.prog 69 [(0, .v (.int .i64 (-1)))] = some (.agg (sup (-1) 0 false)) := by kernel_rfl
  have bo := box_agg bx (sup (-1) 0 false)
  rw [E_power_New]
  refine ends_fin (P := Try.prog) ?_
  unfold F_power_New
  generalize sup (-1) 0 false = L at *
  have stq := (And.intro (bd) (bo))
  repeat first
    | ((with_reducible apply ends_bind); case h => first | (simp only [stp, stq]; first | done | rfl) | rfl)
    | ((with_reducible apply ends_t); case h => first | rfl | (simp only [stp, stq]; done))
    | ((with_reducible apply ends_f); case h => first | rfl | (simp only [stp, stq]; done))
  exact ends_some ⟨.inl rfl, _, rfl, rfl⟩
theorem rnew (k : Nat) (bx : Bx) : evFn cx0 ext0 (k + 1) 20 [] bx = some (.bp bx.length 0, bx ++ [sup (-1) 0 false]) := by
  have bd : buildA Try.prog 59 [(0, .v (.int .i64 (-1)))] = some (.agg (sup (-1) 0 false)) := by kernel_rfl
  have bo := box_agg bx (sup (-1) 0 false)
  rw [E_r03_New]
  refine ends_fin (P := Try.prog) ?_
  unfold F_r03_New
  generalize sup (-1) 0 false = L at *
  have stq := (And.intro (bd) (bo))
  repeat first
    | ((with_reducible apply ends_bind); case h => first | (simp only [stp, stq]; first | done | rfl) | rfl)
    | ((with_reducible apply ends_t); case h => first | rfl | (simp only [stp, stq]; done))
    | ((with_reducible apply ends_f); case h => first | rfl | (simp only [stp, stq]; done))
  exact ends_some ⟨.inl rfl, _, rfl, rfl⟩
theorem ev_new (k : Nat) (bx : Bx) (n : Int) (q : Nat) : evFn cx0 ext0 (k + 1) 21 [.v (.int .i64 n), .bp q 0] bx =
    if 1 ≤ n ∧ n ≤ 2048 then some (.tup [.bp (bx.length + 2) 0, .v (.int .i64 0)], bx ++ [Nw.z1 n.toNat, Nw.z2 n.toNat, Nw.yB q bx.length n.toNat]) else some (.tup [nilP, .v (.int .i64 2)], bx) := by
  have h : ∀ r, ext0 21 [.v (.int .i64 n), .bp q 0] bx = some r → evFn cx0 ext0 (k + 1) 21 [.v (.int .i64 n), .bp q 0] bx = some r := fun r h => by
    show (match ext0 21 [.v (.int .i64 n), .bp q 0] bx with | some r => some r | none => _) = _
    rw [h]
  have e : extD 21 [.v (.int .i64 n), .bp q 0] bx = none := rfl
  have h2 : ext0 21 [.v (.int .i64 n), .bp q 0] bx = if 1 ≤ n ∧ n ≤ 2048 then some (.tup [.bp (bx.length + 2) 0, .v (.int .i64 0)], bx ++ [Nw.z1 n.toNat, Nw.z2 n.toNat, Nw.yB q bx.length n.toNat]) else some (.tup [nilP, .v (.int .i64 2)], bx) := by
    show extE _ _ _ = _
    unfold extE
    rw [e]
    rfl
  split
  · rename_i hn
    rw [if_pos hn] at h2
    exact h _ h2
  · rename_i hn
    rw [if_neg hn] at h2
    exact h _ h2
abbrev u0 : List AV := sup (-1) 0 false
abbrev c0 (n : Nat) : List UInt8 := List.replicate (n * 64) 0
def bx8 (n : Nat) : Bx := [u0, u0, u8l (c0 n), [stH 0 []], [.bp 0 0, .bsl 2 0 n 64, .mp 3, .v (.int .i64 0)], Nw.z1 n, Nw.z2 n, Nw.yB 1 5 n]
def I0 (n : Nat) : Ids := ⟨n, 4, 2, 3, 0, 7, 5, 6, 1⟩
def S0 (n : Nat) : St := ⟨-1, 0, false, 0, c0 n, fun _ => []⟩
theorem J0 (n : Nat) : J (I0 n) (bx8 n) (S0 n) (S0 n) := by
  refine ⟨fun j => (j = 4 ∨ j = 2 ∨ j = 3) ∨ j = 0, fun j => j = 7 ∨ j = 5 ∨ j = 6 ∨ j = 1, ⟨fun j => j = 4 ∨ j = 2 ∨ j = 3, 0, [], [], ⟨rfl, rfl, by simp [S0, I0], rfl, by simp, .nil, rfl, by simp, .nil, .nil, ⟨by simp [I0], by simp [I0], by simp [I0]⟩, ⟨by simp [I0], by simp [I0], by simp [I0]⟩⟩, rfl, by simp [I0], fun j => Iff.rfl, ?_, fun j => rfl⟩,
    ⟨List.replicate n none, ⟨rfl, rfl, by simp [S0, I0], ?_, by simp [I0], fun q hq => ?_, rfl, by simp [I0], by simp [I0], ?_⟩, fun j => ?_⟩, fun j h h' => by omega, fun l hl => ?_⟩
  · rintro j ((rfl | rfl | rfl) | rfl) <;> simp [bx8]
  · show some (Nw.z2 n) = _
    rw [List.map_replicate]
    rfl
  · have := (List.mem_replicate.1 hq).2
    cases this
  · rintro j (rfl | rfl | rfl | rfl) <;> simp [bx8]
  · show wtl (List.replicate n none) j = []
    unfold wtl
    rw [List.getElem?_replicate]
    split <;> rename_i h
    · split at h <;> simp at h
    · rfl
  · simp only [bx8, List.mem_cons, List.not_mem_nil, or_false] at hl
    rcases hl with rfl | rfl | rfl | rfl | rfl | rfl | rfl | rfl
    · exact eqCs_sup _ _ _
    · exact eqCs_sup _ _ _
    · exact eqCs_u8l _
    · exact Pr0.eqCs_map 0 [] []
    · simp [eqCs, eqC, eqD, eqV]
    · exact eqCs_u8l _
    · have := eqCs_wt (List.replicate n none)
      rw [List.map_replicate] at this
      exact this
    · exact eqCs_ry _ _ _ _ _
theorem plays_ev {L : List Ac} (hL : ∀ A ∈ L, A.b.length = 64 ∧ A.ks.length * 8 ≤ 2 ^ 47) (n : Int) : cf (evFn cx0 ext0 2061) 5 [.v (.int .i64 n), asl L] = some (.v (.bool true)) := by
  have cp : callA EP md_l04_DiskPlays [] 19 [] = some (.bp 0 0, [u0]) := by rw [Pr0.call_k rfl]; exact pnew 2059 []
  have cq : callA EP md_l04_DiskPlays [u0] 20 [] = some (.bp 1 0, [u0, u0]) := by rw [Pr0.call_k rfl]; exact rnew 2059 [u0]
  have nf : binA Try.prog .eql 25 (.bp 4 0) nilP = some (.v (.bool false)) := by kernel_rfl
  have ng : binA Try.prog .eql 51 (.bp 7 0) nilP = some (.v (.bool false)) := by kernel_rfl
  have mf : binA Try.prog .eql 25 nilP nilP = some (.v (.bool true)) := by kernel_rfl
  have mg : binA Try.prog .eql 51 nilP nilP = some (.v (.bool true)) := by kernel_rfl
  have nt : (!true) = false := rfl
  have nt2 : (!false) = true := rfl
  have bt : (true == true) = true := rfl
  have bf : (false == false) = true := rfl
  unfold cf
  rw [E_l04_DiskPlays]
  refine ends_cf (P := Try.prog) ?_
  unfold F_l04_DiskPlays
  by_cases hn : 1 ≤ n ∧ n ≤ 2048
  · obtain ⟨n, rfl⟩ : ∃ k : Nat, n = k := ⟨n.toNat, by omega⟩
    have cd : callA EP md_l04_DiskPlays [u0, u0] 7 [.v (.int .i64 n), .bp 0 0] = some (.tup [.bp 4 0, .v (.int .i64 0)], [u0, u0, u8l (c0 n), [stH 0 []], [.bp 0 0, .bsl 2 0 n 64, .mp 3, .v (.int .i64 0)]]) := by
      rw [Pr0.call_k rfl]
      exact fn_x 2059 (by decide) (by decide) (by decide) (by decide) (Pr0.new_ok 999 [u0, u0] (by omega) (by omega) 0)
    have cr : callA EP md_l04_DiskPlays [u0, u0, u8l (c0 n), [stH 0 []], [.bp 0 0, .bsl 2 0 n 64, .mp 3, .v (.int .i64 0)]] 21 [.v (.int .i64 n), .bp 1 0] = some (.tup [.bp 7 0, .v (.int .i64 0)], bx8 n) := by
      rw [Pr0.call_k rfl, show EP = evFn cx0 ext0 (2059 + 1) from rfl, ev_new 2059 _ _ 1, if_pos hn]
      rfl
    have z0 : ((0 : Int) != 0) = false := rfl
    generalize hxL : asl L = xL at *
    have stq := (And.intro (cp) (And.intro (cq) (And.intro (cd) (And.intro (cr) (And.intro (z0) (And.intro (nf) (And.intro (ng) (And.intro (nt) (bf)))))))))
    repeat first
      | ((with_reducible apply ends_bind); case h => first | (simp only [stp, stq]; first | done | rfl) | rfl)
      | ((with_reducible apply ends_t); case h => first | rfl | (simp only [stp, stq]; done))
      | ((with_reducible apply ends_f); case h => first | rfl | (simp only [stp, stq]; done))
    subst hxL
    exact outer (I := I0 n) hL ⟨by show 1 ≤ n; omega, by show n ≤ 2048; omega⟩ (J0 n) fun j => rfl
  · have cd : callA EP md_l04_DiskPlays [u0, u0] 7 [.v (.int .i64 n), .bp 0 0] = some (.tup [nilP, .v (.int .i64 2)], [u0, u0]) := by
      rw [Pr0.call_k rfl]
      exact fn_x 2059 (by decide) (by decide) (by decide) (by decide) (Pr0.new_no 999 [u0, u0] hn _)
    have cr : callA EP md_l04_DiskPlays [u0, u0] 21 [.v (.int .i64 n), .bp 1 0] = some (.tup [nilP, .v (.int .i64 2)], [u0, u0]) := by
      rw [Pr0.call_k rfl, show EP = evFn cx0 ext0 (2059 + 1) from rfl, ev_new 2059 _ _ 1, if_neg hn]
    have z0 : ((2 : Int) != 2) = false := rfl
    have nq : binA Try.prog .neq 51 nilP nilP = some (.v (.bool false)) := by kernel_rfl
    have lnL : lenA Try.prog 22 (asl L) = some (.v (.int .i64 L.length)) := by
      have h0 : ∀ (n : Nat) (l : List AV), lenA Try.prog 22 (.sl n l true) = some (.v (.int .i64 n)) := by intro n l; kernel_rfl
      exact h0 _ _
    generalize hxL : asl L = xL at *
    have stq := (And.intro (cp) (And.intro (cq) (And.intro (cd) (And.intro (cr) (And.intro (z0) (And.intro (mf) (And.intro (mg) (And.intro (nt) (bt)))))))))
    repeat first
      | ((with_reducible apply ends_bind); case h => first | (simp only [stp, stq]; first | done | rfl) | rfl)
      | ((with_reducible apply ends_t); case h => first | rfl | (simp only [stp, stq]; done))
      | ((with_reducible apply ends_f); case h => first | rfl | (simp only [stp, stq]; done))
    refine ends_loop (n := 2060) (fun r t => ∃ (x42 x10 x8 x7 x6 x5 x4 x0 : AV), t = ⟨[(11, .v (.int .i64 0)), (42, x42), (10, x10), (9, nilP), (8, x8), (7, x7), (6, x6), (5, x5), (4, x4), (0, x0), (1, xL)], [u0, u0]⟩) 0 (by omega) ⟨_, _, _, _, _, _, _, _, rfl⟩ ?_
    rintro r t ⟨x42, x10, x8, x7, x6, x5, x4, x0, rfl⟩
    refine L_l04_DiskPlays_0_lit ?_
    unfold B_l04_DiskPlays_0
    have g2 : decide ((0 : Int) < 60) = true := rfl
    by_cases h1 : 0 < L.length
    · have g1 : decide ((0 : Int) < (L.length : Int)) = true := decide_eq_true (by omega)
      have stq := (And.intro (lnL) (And.intro (g1) (And.intro (g2) (nq))))
      repeat first
        | ((with_reducible apply ends_bind); case h => first | (simp only [stp, stq]; first | done | rfl) | rfl)
        | ((with_reducible apply ends_t); case h => first | rfl | (simp only [stp, stq]; done))
        | ((with_reducible apply ends_f); case h => first | rfl | (simp only [stp, stq]; done))
      exact ends_some (.inr (.inl ⟨0, rfl, X_l04_DiskPlays_0_0_lit (last _ _ _ _ _ _ _ _ _ _ _ _ _)⟩))
    · have g1 : decide ((0 : Int) < (L.length : Int)) = false := decide_eq_false (by omega)
      have stq := (And.intro (lnL) (g1))
      repeat first
        | ((with_reducible apply ends_bind); case h => first | (simp only [stp, stq]; first | done | rfl) | rfl)
        | ((with_reducible apply ends_t); case h => first | rfl | (simp only [stp, stq]; done))
        | ((with_reducible apply ends_f); case h => first | rfl | (simp only [stp, stq]; done))
      exact ends_some (.inr (.inl ⟨0, rfl, X_l04_DiskPlays_0_0_lit (last _ _ _ _ _ _ _ _ _ _ _ _ _)⟩))
theorem acs_at {L : List Ac} (h : ∀ A ∈ L, A.b.length = 64) (i : Nat) (hi : i < L.length) : (acs L)[i * 67 + 66]? = some (.sl L[i].ks.length (il L[i].ks) true) := by
  obtain ⟨r, hr⟩ := acs_drop h i hi
  have hb := h _ (List.getElem_mem hi)
  rw [← List.getElem?_drop, hr]
  generalize L[i] = A at *
  show ((u8l A.b ++ [AV.sl A.ks.length (il A.ks) true]) ++ r)[64]? = _
  rw [List.append_assoc, List.getElem?_append_right (by rw [u8l_len, hb]; exact Nat.le_refl _), u8l_len, hb]
  rfl
/-- lists that lie in the acts are short -/
def KeepsShort (zs : List AV) : Prop := ∀ (m : Nat) (c : List AV) (g : Bool), zs[1]? = some (.sl m c g) → c.length = m * 67 → ∀ q, q < m → ∀ (m2 : Nat) (l2 : List AV) (g2 : Bool), c[q * 67 + 66]? = some (.sl m2 l2 g2) → m2 * 8 ≤ 2 ^ 47
theorem plays_law {L : List Ac} (hL : ∀ A ∈ L, A.b.length = 64) (n : Int) (h : KeepsShort [.v (.int .i64 n), asl L]) : cf (evFn cx0 ext0 2061) 5 [.v (.int .i64 n), asl L] = some (.v (.bool true)) := by
  refine plays_ev (fun A hA => ⟨hL A hA, ?_⟩) n
  obtain ⟨i, hi, rfl⟩ := List.mem_iff_getElem.1 hA
  have := h L.length (acs L) true rfl (acs_len hL) i hi _ _ _ (acs_at hL i hi)
  omega
end Go.Sy
