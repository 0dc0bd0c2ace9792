/-
  The law DiskFlushed as the reader reads it: what is written behind the flush.
-/
import Derived.Test.YtijmfjpcjceejaaLwFls
namespace Go.Sy
open Go.Proofs
open Go.Sy.Pr0 (Wt Ws wEs DB DQ dbA dbA_of dbA_inv shw wl nilP)

/-- a list of what was shown grows -/
theorem Shn.grow {O : Nat → Prop} {bx : Bx} {g : Nat} {sh : List Sq} (h : Shn O bx g sh) {k : Nat} (hk : k < sh.length) {b : List UInt8} (hb : b.length = 64) (hbig : (sh[k]).2.length + 64 ≤ 64 * 100) :
    Shn O ((bx.set (sh[k]).1 (u8l ((sh[k]).2 ++ b))).set g (shC (sh.set k ((sh[k]).1, (sh[k]).2 ++ b)))) g (sh.set k ((sh[k]).1, (sh[k]).2 ++ b)) := by
  have lt : ∀ {i : Nat} {l : List AV}, bx[i]? = some l → i < bx.length := fun h => (List.getElem?_eq_some_iff.1 h).1
  obtain ⟨q1, q2, q3, q4, q5, q6⟩ := h.hq _ (List.getElem_mem hk)
  refine ⟨by rw [List.getElem?_set_self (by rw [List.length_set]; exact lt h.hg)], by rw [List.length_set]; exact h.hl, fun q hq => ?_, ?_, h.og⟩
  · obtain ⟨j, hj⟩ := List.getElem?_of_mem hq
    by_cases e : j = k
    · subst e
      rw [List.getElem?_set_self hk] at hj
      simp only [Option.some.injEq] at hj
      subst hj
      refine ⟨?_, by simp only [List.length_append]; omega, by simp only [List.length_append]; omega, by simp only [List.length_append]; omega, q5, q6⟩
      rw [List.getElem?_set_ne (Ne.symm q6), List.getElem?_set_self (lt q1)]
    · rw [List.getElem?_set_ne (Ne.symm e)] at hj
      obtain ⟨u1, u2, u3, u4, u5, u6⟩ := h.hq q (List.mem_of_getElem? hj)
      refine ⟨?_, u2, u3, u4, u5, u6⟩
      have hne : q.1 ≠ (sh[k]).1 := by
        intro ee
        have hjlt := (List.getElem?_eq_some_iff.1 hj).1
        exact e ((List.getElem?_inj (by simpa using hjlt) h.nd).1 (by rw [List.getElem?_map, List.getElem?_map, hj, List.getElem?_eq_getElem hk]; simp [ee]))
      rw [List.getElem?_set_ne (Ne.symm u6), List.getElem?_set_ne (Ne.symm hne)]
      exact u1
  · have : (sh.set k ((sh[k]).1, (sh[k]).2 ++ b)).map (·.1) = sh.map (·.1) := by
      rw [List.map_set]
      refine List.set_getElem?_self' ?_
      rw [List.getElem?_map, List.getElem?_eq_getElem hk]
      rfl
    rw [this]
    exact h.nd
theorem stage2 {O : Nat → Prop} {bx : Bx} {d s m cl g : Nat} {z : Int} {c : List UInt8} {sh : List Sq} {ks : List Int} (D : DB O bx d s 8 m cl nilP z c [] []) (hO : ∀ j, O j → j < bx.length) (S : Shn O bx g sh) (h8 : sh.length = 8)
    (hsh : ∀ k (h : k < sh.length), (sh[k]).2 = bk c k) {x1 x2 : AV} {L1 : List (Int × List UInt8)} (A1 : Acts x1 L1) (hk : ∀ bx s, keepA bx s x2 = some ks) (x55 x11 x53 x34 x9 x22 x6 x0 : AV) :
    Ends (X_l04_DiskFlushed_1_0 E9 999 0 x55 x11 x53 (.bp g 0) x34 x9 (.bp d 0) x22 x6 x0 x1 x2 bx) QT := by
  unfold X_l04_DiskFlushed_1_0
  refine ends_loop (n := 999) (fun r t => ∃ (i : Nat) (y : Bx) (O : Nat → Prop) (cl : Nat) (z : Int) (bs : List Nat) (ws : Ws) (sh : List Sq) (x55 x11 x53 x34 x9 x22 x6 x0 : AV), t = ⟨[(14, .v (.int .i64 i)), (55, x55), (11, x11), (53, x53), (10, .bp g 0), (34, x34), (9, x9), (7, .bp d 0), (22, x22), (6, x6), (0, x0), (1, x1), (2, x2)], y⟩ ∧
      i + r = 40 ∧ DB O y d s 8 m cl nilP z c bs ws ∧ (∀ j, O j → j < y.length) ∧ Shn O y g sh ∧ sh.length = 8 ∧ (∀ k (h : k < sh.length), (sh[k]).2 = bk c k ++ wl ws k) ∧ (∀ j, (wl ws j).length ≤ 64 * i)) 40 (by omega)
    ⟨0, bx, O, cl, z, [], [], sh, _, _, _, _, _, _, _, _, rfl, by omega, D, hO, S, h8, fun k h => by rw [hsh k h, show wl [] k = [] from rfl, List.append_nil], fun j => by rw [show wl [] j = [] from rfl]; simp⟩ ?_
  clear D hO S h8 hsh
  rintro r t ⟨i, y, O, cl, z, bs, ws, sh, x55, x11, x53, x34, x9, x22, x6, x0, rfl, hir, D, hO, S, h8, hsh, hw⟩
  refine L_l04_DiskFlushed_2_lit ?_
  unfold B_l04_DiskFlushed_2
  have ln := A1.ln
  by_cases hi : i < L1.length
  · have g1 : decide ((i : Int) < (L1.length : Int)) = true := decide_eq_true (by omega)
    by_cases hi4 : i < 40
    · have g2 : decide ((i : Int) < 40) = true := decide_eq_true (by omega)
      obtain ⟨a, a1, a2, ix, fa1, fa2, la, lb, hbl⟩ := A1.ix i hi
      generalize L1[i] = act at *
      obtain ⟨at_, b⟩ := act
      simp only at la lb hbl
      obtain ⟨k, hk8, ham⟩ := among_ev 998 at_ 8 (by omega) (by omega)
      have ca : ∀ y, callA E9 md_l04_DiskFlushed y 9 [.v (.int .i64 at_), .v (.int .i64 8)] = some (.v (.int .i64 k), y) := by
        intro y
        rw [callA_frozen rfl]
        show (cf E9 9 [.v (.int .i64 at_), .v (.int .i64 8)]).map _ = _
        rw [show cf E9 9 [.v (.int .i64 at_), .v (.int .i64 8)] = some (.v (.int .i64 k)) from ham]
        rfl
      obtain ⟨y1, O', cl', bs', ws', ew, D', hwl, _, hO1, hO2, fr, hlen, _⟩ := write_cl 998 D hO hk8 hbl (by have := hw k; omega)
      have cw : callA E9 md_l04_DiskFlushed y 8 [.bp d 0, .v (.int .i64 k), .agg (u8l b)] = some (.v (.int .i64 0), y1) := by rw [Pr0.call_k rfl]; exact ew
      have S1 : Shn O' y1 g sh := S.frame fr hO1
      have hks : k < sh.length := by omega
      have ixg := ix_sh g k hk8
      have ldg := ld_sh S1.hg (shC_get hks)
      obtain ⟨q1, q2, q3, q4, q5, q6⟩ := S1.hq _ (List.getElem_mem hks)
      have hshk : (sh[k]).2.length ≤ 64 + 64 * i := by
        rw [hsh k hks, List.length_append, bk_len (n := 8) hk8 D.hc]
        have := hw k
        omega
      have hgl : g < y1.length := (List.getElem?_eq_some_iff.1 S1.hg).1
      have ap1 : apartV (.bp y1.length 0) (.bp g k) = true := by simp [apartV]; omega
      have mk := mk_g1 y1 hbl
      obtain ⟨y2, hy2⟩ : ∃ x, x = y1 ++ [u8l b] := ⟨_, rfl⟩
      rw [← hy2] at mk
      have S2 : Shn O' y2 g sh := by rw [hy2]; exact S1.app hO2 _
      have p1 : y2[(sh[k]).1]? = some (u8l (sh[k]).2) := (S2.hq _ (List.getElem_mem hks)).1
      have ap := ap_gg (n0 := 0) p1 q2 (by omega) (by rw [hy2]; simp : y2[y1.length]? = some (u8l b)) hbl
      have hgv : gv sh[k] = .gs (sh[k]).1 ((sh[k]).2.length / 64) 64 := rfl
      rw [hgv] at ldg
      have fre : ∀ v, freeA (.gs (sh[k]).1 ((sh[k]).2.length / 64) 64) v = true := fun v => rfl
      obtain ⟨y3, hy3⟩ : ∃ x, x = y2.set (sh[k]).1 (u8l ((sh[k]).2 ++ b)) := ⟨_, rfl⟩
      rw [← hy3] at ap
      have hg3 : y3[g]? = some (shC sh) := by rw [hy3, List.getElem?_set_ne q6]; exact S2.hg
      have stg := st_sh hg3 (k := k) (by rw [shC_len S.hl]; exact hk8) ((sh[k]).1, (sh[k]).2 ++ b)
      rw [shC_set hks] at stg
      have S4 := S2.grow hks hbl (by omega)
      rw [← hy3] at S4
      obtain ⟨y4, hy4⟩ : ∃ x, x = y3.set g (shC (sh.set k ((sh[k]).1, (sh[k]).2 ++ b))) := ⟨_, rfl⟩
      rw [← hy4] at stg S4
      have e3 : IntKind.i64.wrap ((i : Int) + 1) = ((i + 1 : Nat) : Int) := by rw [wrap64]; omega
      have D4 : DB O' y4 d s 8 m cl' nilP (IntKind.i64.wrap (z + 1)) c bs' ws' := D'.frame fun j hj hl => by
        have n1 : g ≠ j := fun e => by subst e; exact S1.og hj
        have n2 : (sh[k]).1 ≠ j := fun e => by rw [e] at q5; exact q5 hj
        rw [hy4, List.getElem?_set_ne n1, hy3, List.getElem?_set_ne n2, hy2, List.getElem?_append_left hl]
      have hO4 : ∀ j, O' j → j < y4.length := fun j hj => by have := hO2 j hj; rw [hy4, hy3, hy2]; simp; omega
      generalize gv ((sh[k]).1, (sh[k]).2 ++ b) = X at *
      have stq := (And.intro (ln) (And.intro (g1) (And.intro (g2) (And.intro (ix) (And.intro (fa1) (And.intro (fa2) (And.intro (la) (And.intro (lb) (And.intro (ca) (And.intro (cw) (And.intro (ixg) (And.intro (ldg) (And.intro (ap1) (And.intro (mk) (And.intro (ap) (And.intro (fre) (And.intro (stg) (e3))))))))))))))))))
      repeat first
        | ((with_reducible apply ends_bind); case h => first | (simp only [stp, stq]; first | done | rfl) | rfl)
        | ((with_reducible apply ends_t); case h => first | rfl | (simp only [stp, stq]; done))
        | ((with_reducible apply ends_f); case h => first | rfl | (simp only [stp, stq]; done))
      refine ends_some (.inl ⟨rfl, r - 1, by omega, i + 1, y4, O', cl', _, bs', ws', sh.set k ((sh[k]).1, (sh[k]).2 ++ b), _, _, _, _, _, _, _, _, by first | rfl | (rw [← e3]; rfl), by omega, D4, hO4, S4, by rw [List.length_set]; exact h8, fun j hj => ?_, fun j => ?_⟩)
      · have hj' : j < sh.length := by rw [List.length_set] at hj; exact hj
        rw [hwl]
        by_cases e : j = k
        · subst e
          rw [List.getElem_set_self, if_pos rfl]
          simp only
          rw [hsh j hj', List.append_assoc]
        · rw [List.getElem_set_ne (Ne.symm e), if_neg e]
          exact hsh j hj'
      · rw [hwl]
        split
        · rw [List.length_append, hbl]
          have := hw k
          omega
        · have := hw j
          omega
    · have g2 : decide ((i : Int) < 40) = false := decide_eq_false (by omega)
      have stq := (And.intro (ln) (And.intro (g1) (g2)))
      repeat first
        | ((with_reducible apply ends_bind); case h => first | (simp only [stp, stq]; first | done | rfl) | rfl)
        | ((with_reducible apply ends_t); case h => first | rfl | (simp only [stp, stq]; done))
        | ((with_reducible apply ends_f); case h => first | rfl | (simp only [stp, stq]; done))
      exact ends_some (.inr (.inl ⟨4, rfl, X_l04_DiskFlushed_2_0_lit (stage3 D hO S h8 hsh hk _ _ _ _ _ _ _ _ _ _ _)⟩))
  · have g1 : decide ((i : Int) < (L1.length : Int)) = false := decide_eq_false (by omega)
    have stq := (And.intro (ln) (g1))
    repeat first
      | ((with_reducible apply ends_bind); case h => first | (simp only [stp, stq]; first | done | rfl) | rfl)
      | ((with_reducible apply ends_t); case h => first | rfl | (simp only [stp, stq]; done))
      | ((with_reducible apply ends_f); case h => first | rfl | (simp only [stp, stq]; done))
    exact ends_some (.inr (.inl ⟨4, rfl, X_l04_DiskFlushed_2_0_lit (stage3 D hO S h8 hsh hk _ _ _ _ _ _ _ _ _ _ _)⟩))
end Go.Sy
