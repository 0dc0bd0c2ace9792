/-
  The law DiskFlushed as the reader reads it.
-/
import Derived.Test.YtijmfjpcjceejaaLwFls0
namespace Go.Sy
open Go.Proofs
open Go.Sy.Pr0 (Wt Ws wEs DB DQ dbA dbA_of dbA_inv shw wl nilP)

/-- what was shown of a sector: a list of blocks -/
abbrev Sq := Nat × List UInt8
def gv (q : Sq) : AV := .gs q.1 (q.2.length / 64) 64
abbrev nilS : AV := .v (.slice none 0 0)
def shC (sh : List Sq) : List AV := sh.map gv ++ List.replicate (8 - sh.length) nilS
structure Shn (O : Nat → Prop) (bx : Bx) (g : Nat) (sh : List Sq) : Prop where
  hg : bx[g]? = some (shC sh)
  hl : sh.length ≤ 8
  hq : ∀ q ∈ sh, bx[q.1]? = some (u8l q.2) ∧ q.2.length % 64 = 0 ∧ 0 < q.2.length ∧ q.2.length ≤ 64 * 100 ∧ ¬ O q.1 ∧ q.1 ≠ g
  nd : (sh.map (·.1)).Nodup
  og : ¬ O g
theorem Shn.frame {O O' : Nat → Prop} {bx bx' : Bx} {g : Nat} {sh : List Sq} (h : Shn O bx g sh) (h1 : ∀ j, j < bx.length → ¬ O j → bx'[j]? = bx[j]?) (h2 : ∀ j, O' j → O j ∨ bx.length ≤ j) : Shn O' bx' g sh := by
  have lt : ∀ {i : Nat} {l : List AV}, bx[i]? = some l → i < bx.length := fun h => (List.getElem?_eq_some_iff.1 h).1
  have no : ∀ {i : Nat}, ¬ O i → i < bx.length → ¬ O' i := fun h h' h'' => (h2 _ h'').elim h (by omega)
  refine ⟨by rw [h1 g (lt h.hg) h.og]; exact h.hg, h.hl, fun q hq => ?_, h.nd, no h.og (lt h.hg)⟩
  obtain ⟨q1, q2, q3, q4, q5, q6⟩ := h.hq q hq
  exact ⟨by rw [h1 q.1 (lt q1) q5]; exact q1, q2, q3, q4, no q5 (lt q1), q6⟩
theorem Shn.app {O : Nat → Prop} {bx : Bx} {g : Nat} {sh : List Sq} (h : Shn O bx g sh) (hO : ∀ j, O j → j < bx.length) (t : Bx) : Shn O (bx ++ t) g sh :=
  h.frame (fun j hj _ => List.getElem?_append_left hj) fun j hj => .inl hj
theorem shC_len {sh : List Sq} (h : sh.length ≤ 8) : (shC sh).length = 8 := by
  simp [shC]; omega
theorem shC_get {sh : List Sq} {k : Nat} (h : k < sh.length) : (shC sh)[k]? = some (gv sh[k]) := by
  unfold shC
  rw [List.getElem?_append_left (by simpa using h), List.getElem?_map, List.getElem?_eq_getElem h]
  rfl
theorem shC_new {sh : List Sq} (h : sh.length < 8) (q : Sq) : (shC sh).set sh.length (gv q) = shC (sh ++ [q]) := by
  unfold shC
  obtain ⟨r, hr⟩ : ∃ r, 8 - sh.length = r + 1 := ⟨7 - sh.length, by omega⟩
  rw [hr, List.set_append_right _ _ (by simp), List.map_append, List.length_map, Nat.sub_self, List.replicate_succ, List.set_cons_zero, List.append_assoc, List.length_append, show 8 - (sh.length + [q].length) = r by simp; omega]
  rfl
theorem shC_set {sh : List Sq} {k : Nat} (h : k < sh.length) (q : Sq) : (shC sh).set k (gv q) = shC (sh.set k q) := by
  unfold shC
  rw [List.set_append_left _ _ (by simpa using h), List.map_set, List.length_set]
theorem t36 : arA Try.prog 36 = some (8, 35) ∧ szA Try.prog 35 = some 1 ∧ agA Try.prog 35 = some false := ⟨by kernel_rfl, by kernel_rfl, by kernel_rfl⟩
theorem ix_sh (g k : Nat) (hk : k < 8) : indexAddrA Try.prog 36 (.bp g 0) (.v (.int .i64 k)) = some (.bp g k) := by
  unfold indexAddrA
  simp only [t36.1, t36.2.1, Option.bind_some, idxI]
  rw [if_pos ⟨by omega, by omega⟩]
  simp
theorem ld_sh {bx : Bx} {g k : Nat} {l : List AV} (h : bx[g]? = some l) {x : AV} (hx : l[k]? = some x) : loadA Try.prog 35 bx (.bp g k) = some x := by
  simp only [loadA, h, Option.bind_some, partA, t36.2.1, t36.2.2]
  exact hx
theorem st_sh {bx : Bx} {g k : Nat} {l : List AV} (h : bx[g]? = some l) (hk : k < l.length) (q : Sq) : stA Try.prog 35 bx (.bp g k) (gv q) = some (.v undef, bx.set g (l.set k (gv q))) := by
  unfold stA storeA
  simp only [t36.2.1, h, Option.bind_some]
  rw [if_pos ⟨rfl, rfl, by omega⟩]
  rfl
theorem mk_g1 (bx : Bx) {b : List UInt8} (hb : b.length = 64) : buildSliceG Try.prog bx 35 1 [(0, .agg (u8l b))] = some (.gs bx.length 1 64, bx ++ [u8l b]) := by
  unfold buildSliceG
  rw [Pr0.mk_b1 bx hb]
  simp [toG, Pr0.isV_u8l]
theorem rd_g1 {bx : Bx} {t : Nat} {b : List UInt8} (ht : bx[t]? = some (u8l b)) (hb : b.length = 64) : readA bx (.gs t 1 64) = some (1, u8l b) := by
  unfold readA
  simp only [ht, Option.map_some]
  rw [List.take_of_length_le (by rw [u8l_len]; omega)]
theorem ap_gg {bx : Bx} {n0 c t : Nat} {e b : List UInt8} (hc : bx[c]? = some (u8l e)) (he : e.length % 64 = 0) (hbig : e.length < 2 ^ 32) (ht : bx[t]? = some (u8l b)) (hb : b.length = 64) :
    appA Try.prog n0 bx 35 (.gs c (e.length / 64) 64) (.gs t 1 64) = some (gv (c, e ++ b), fun x => x, bx.set c (u8l (e ++ b))) := by
  unfold appA
  simp only [el_bl.1, if_true, el_bl.2.1, el_bl.2.2, by_bl, zc_bl, Option.bind_some, rd_g1 ht hb]
  rw [if_pos ⟨by rw [u8l_len, hb], by omega, by simp [u8l_len], by omega, by omega, by omega⟩]
  simp only [hc, Option.bind_some]
  rw [if_pos ⟨by rw [u8l_len]; omega, trivial, by omega, Pr0.isV_u8l b⟩, u8l_app]
  unfold gv
  simp only [List.length_append, hb]
  rw [show (e.length + 64) / 64 = e.length / 64 + 1 by omega]
theorem eqCs_shC (sh : List Sq) : eqCs (shC sh) (shC sh) = true := by
  unfold shC
  refine Pr0.eqCs_app ?_ ?_
  · induction sh with
    | nil => rfl
    | cons q sh ih =>
      simp only [List.map_cons, eqCs, gv, eqC, eqD, beq_self_eq_true, Bool.and_self, Bool.true_and]
      exact ih
  · generalize 8 - sh.length = r
    induction r with
    | zero => rfl
    | succ r ih =>
      rw [List.replicate_succ]
      simp only [eqCs, eqC, eqD, eqV, beq_self_eq_true, Bool.and_self, Bool.true_and]
      exact ih
theorem bk_app {a b : List UInt8} (ha : a.length = 64) (i : Nat) : bk (a ++ b) (i + 1) = bk b i := by
  unfold bk
  rw [show (i + 1) * 64 = 64 + i * 64 by omega, ← List.drop_drop, ← ha, List.drop_left]
theorem bk_app0 {a b : List UInt8} (ha : a.length = 64) : bk (a ++ b) 0 = a := by
  unfold bk
  rw [Nat.zero_mul, List.drop_zero, ← ha, List.take_left]
abbrev QT := RetQ Try.prog [.tmp 6] (.v (.bool true))
noncomputable abbrev E9 : FnA := evFn cx0 ext0 999

/-- the last loop: each sector is read, and looked for -/
theorem stage3 {O : Nat → Prop} {bx : Bx} {d s m cl g : Nat} {z : Int} {c : List UInt8} {bs : List Nat} {ws : Ws} {sh : List Sq} {ks : List Int} (D : DB O bx d s 8 m cl nilP z c bs ws) (hO : ∀ j, O j → j < bx.length) (S : Shn O bx g sh) (h8 : sh.length = 8)
    (hsh : ∀ k (h : k < sh.length), (sh[k]).2 = bk c k ++ wl ws k) {x2 : AV} (hk : ∀ bx s, keepA bx s x2 = some ks) (x75 x14 x55 x11 x53 x34 x9 x22 x6 x0 x1 : AV) :
    Ends (X_l04_DiskFlushed_2_0 E9 999 0 x75 x14 x55 x11 x53 (.bp g 0) x34 x9 (.bp d 0) x22 x6 x0 x1 x2 bx) QT := by
  obtain ⟨bx1, c1, e1, D1, hc1, f1, l1, _⟩ := crash_cl 998 D (hk bx s)
  have cc : callA E9 md_l04_DiskFlushed bx 12 [.bp d 0, x2] = some (.tup [], bx1) := by rw [Pr0.call_k rfl]; exact e1
  have S1 : Shn O bx1 g sh := S.frame (fun j _ hj => f1 j hj) fun j hj => .inl hj
  have hO1 : ∀ j, O j → j < bx1.length := fun j hj => by rw [l1]; exact hO j hj
  -- what is found
  have hfound : ∀ k (h : k < sh.length), ∃ idx, idx < (sh[k]).2.length / 64 ∧ bk (sh[k]).2 idx = bk c1 k := by
    intro k h
    obtain ⟨q1, q2, q3, _⟩ := S.hq _ (List.getElem_mem h)
    have hbl : (bk c k).length = 64 := bk_len (n := 8) (by omega) D.hc
    rw [hc1 k (by omega)]
    have he := hsh k h
    by_cases hw : 0 < (wl ws k).length
    · rw [if_pos hw]
      unfold Pre.crBlk
      by_cases hn : 0 < Pre.keepN ks k ((wl ws k).length / 64)
      · rw [if_pos hn]
        have hle := Pre.keepN_le ks k ((wl ws k).length / 64)
        refine ⟨Pre.keepN ks k ((wl ws k).length / 64), by rw [he, List.length_append, hbl]; omega, ?_⟩
        rw [he]
        obtain ⟨i, hi⟩ : ∃ i, Pre.keepN ks k ((wl ws k).length / 64) = i + 1 := ⟨Pre.keepN ks k ((wl ws k).length / 64) - 1, by omega⟩
        rw [hi, bk_app hbl]
        rfl
      · rw [if_neg hn]
        exact ⟨0, by omega, by rw [he, bk_app0 hbl]⟩
    · rw [if_neg hw]
      exact ⟨0, by omega, by rw [he, bk_app0 hbl]⟩
  unfold X_l04_DiskFlushed_2_0
  have stq := (cc)
  repeat first
    | ((with_reducible apply ends_bind); case h => first | (simp only [stp, stq]; first | done | rfl) | rfl)
    | ((with_reducible apply ends_t); case h => first | rfl | (simp only [stp, stq]; done))
    | ((with_reducible apply ends_f); case h => first | rfl | (simp only [stp, stq]; done))
  refine ends_loop (n := 999) (fun r t => ∃ (k : Nat) (by_ : Bx) (x75 x14 x55 x11 x53 x34 x9 x22 x6 x0 x1 x2 : AV), t = ⟨[(16, .v (.int .i64 k)), (75, x75), (14, x14), (55, x55), (11, x11), (53, x53), (10, .bp g 0), (34, x34), (9, x9), (7, .bp d 0), (22, x22), (6, x6), (0, x0), (1, x1), (2, x2)], by_⟩ ∧ k + r = 8 ∧ DB O by_ d s 8 m cl nilP z c1 [] [] ∧ Shn O by_ g sh ∧ (∀ j, O j → j < by_.length)) 8 (by omega) ⟨0, bx1, _, _, _, _, _, _, _, _, _, _, _, _, rfl, rfl, D1, S1, hO1⟩ ?_
  clear cc e1 D1 S1 f1 l1 hO1
  rintro r0 t ⟨k, by_, x75, x14, x55, x11, x53, x34, x9, x22, x6, x0, x1, x2, rfl, hkr, D1, S1, hO1⟩
  refine L_l04_DiskFlushed_3_lit ?_
  unfold B_l04_DiskFlushed_3
  by_cases hk8 : k < 8
  · have g1 : decide ((k : Int) < 8) = true := decide_eq_true (by omega)
    have hks : k < sh.length := by omega
    obtain ⟨t, er, gt⟩ := read_cl 998 D1 k hk8
    have cr : callA E9 md_l04_DiskFlushed by_ 11 [.bp d 0, .v (.int .i64 k)] = some (.tup [.agg (u8l (bk c1 k)), .v (.int .i64 0)], by_ ++ t) := by rw [Pr0.call_k rfl]; exact er
    have hbl : (bk c1 k).length = 64 := bk_len (n := 8) hk8 D1.hc
    obtain ⟨y1, hy1⟩ : ∃ y, y = by_ ++ t := ⟨_, rfl⟩
    rw [← hy1] at cr
    have D2 : DB O y1 d s 8 m cl nilP z c1 [] [] := by rw [hy1]; exact D1.app t
    have S2 : Shn O y1 g sh := by rw [hy1]; exact S1.app hO1 t
    have hO2 : ∀ j, O j → j < y1.length := fun j hj => by have := hO1 j hj; rw [hy1]; simp; omega
    have al := al_a hB (P := Try.prog) y1
    have stz : stA Try.prog 32 (y1 ++ [u8l (List.replicate 64 0)]) (.bp y1.length 0) (.agg (u8l (bk c1 k))) = some (.v undef, y1 ++ [u8l (bk c1 k)]) := by
      have := st_a hB (bx := y1 ++ [u8l (List.replicate 64 0)]) (k := y1.length) (b := List.replicate 64 0) (c := bk c1 k) (by simp) (by simp) hbl
      rw [this]
      simp
    obtain ⟨y2, hy2⟩ : ∃ y, y = y1 ++ [u8l (bk c1 k)] := ⟨_, rfl⟩
    rw [← hy2] at stz
    have D3 : DB O y2 d s 8 m cl nilP z c1 [] [] := by rw [hy2]; exact D2.app _
    have S3 : Shn O y2 g sh := by rw [hy2]; exact S2.app hO2 _
    have hO3 : ∀ j, O j → j < y2.length := fun j hj => by have := hO2 j hj; rw [hy2]; simp; omega
    have hT : y2[y1.length]? = some (u8l (bk c1 k)) := by rw [hy2]; simp
    have lT : loadA Try.prog 32 y2 (.bp y1.length 0) = some (.agg (u8l (bk c1 k))) := ld_a hB hT hbl
    have stq := (And.intro (g1) (And.intro (cr) (And.intro (al) (stz))))
    repeat first
      | ((with_reducible apply ends_bind); case h => first | (simp only [stp, stq]; first | done | rfl) | rfl)
      | ((with_reducible apply ends_t); case h => first | rfl | (simp only [stp, stq]; done))
      | ((with_reducible apply ends_f); case h => first | rfl | (simp only [stp, stq]; done))
    obtain ⟨idx, hidx, hfi⟩ := hfound k hks
    obtain ⟨q1, q2, q3, q4, q5, q6⟩ := S3.hq _ (List.getElem_mem hks)
    refine ends_loop (n := 999) (fun r t => ∃ (i : Nat) (fd : Bool) (x75 x14 x55 x11 x53 x34 x9 x22 x6 x0 x1 x2 x108 : AV), t = ⟨[(20, .v (.int .i64 i)), (19, .v (.bool fd)), (18, .v (.int .i64 0)), (17, .bp y1.length 0), (108, x108), (16, .v (.int .i64 k)), (75, x75), (14, x14), (55, x55), (11, x11), (53, x53), (10, .bp g 0), (34, x34), (9, x9), (7, .bp d 0), (22, x22), (6, x6), (0, x0), (1, x1), (2, x2)], y2⟩ ∧ i + r = (sh[k]).2.length / 64 ∧ (idx < i → fd = true)) ((sh[k]).2.length / 64) ?_ ⟨0, false, _, _, _, _, _, _, _, _, _, _, _, _, _, rfl, by omega, fun h => by omega⟩ ?_
    · have := q4; omega
    rintro r t ⟨i, fd, x75, x14, x55, x11, x53, x34, x9, x22, x6, x0, x1, x2, x108, rfl, hir, hfd⟩
    refine L_l04_DiskFlushed_4_lit ?_
    unfold B_l04_DiskFlushed_4
    have ixg := ix_sh g k hk8
    have ldg := ld_sh S3.hg (shC_get hks)
    rw [gv] at ldg
    have ln := ln_gs (sh[k]).1 ((sh[k]).2.length / 64) 64
    by_cases hi : i < (sh[k]).2.length / 64
    · have g2 : decide ((i : Int) < (((sh[k]).2.length / 64 : Nat) : Int)) = true := decide_eq_true (by omega)
      have ixb := ix_gs (sh[k]).1 ((sh[k]).2.length / 64) i .i64 hi
      have ldb := ld_gs (j := i) (k := (sh[k]).2.length / 64) q1 (by omega) hi
      have hbi : (bk (sh[k]).2 i).length = 64 := bk_len (n := (sh[k]).2.length / 64) hi (by omega)
      have eb := (eq_a hB (P := Try.prog) hbi hbl).1
      have e3 : IntKind.i64.wrap ((i : Int) + 1) = ((i + 1 : Nat) : Int) := by rw [wrap64]; omega
      cases fd with
      | true =>
        have stq := (And.intro (ixg) (And.intro (ldg) (And.intro (ln) (And.intro (g2) (e3)))))
        repeat first
          | ((with_reducible apply ends_bind); case h => first | (simp only [stp, stq]; first | done | rfl) | rfl)
          | ((with_reducible apply ends_t); case h => first | rfl | (simp only [stp, stq]; done))
          | ((with_reducible apply ends_f); case h => first | rfl | (simp only [stp, stq]; done))
        exact ends_some (.inl ⟨rfl, r - 1, by omega, i + 1, true, _, _, _, _, _, _, _, _, _, _, _, _, _, by first | rfl | (rw [← e3]; rfl), by omega, fun _ => rfl⟩)
      | false =>
        have stq := (And.intro (ixg) (And.intro (ldg) (And.intro (ln) (And.intro (g2) (And.intro (ixb) (And.intro (ldb) (And.intro (lT) (And.intro (eb) (e3)))))))))
        repeat first
          | ((with_reducible apply ends_bind); case h => first | (simp only [stp, stq]; first | done | rfl) | rfl)
          | ((with_reducible apply ends_t); case h => first | rfl | (simp only [stp, stq]; done))
          | ((with_reducible apply ends_f); case h => first | rfl | (simp only [stp, stq]; done))
        refine ends_some (.inl ⟨rfl, r - 1, by omega, i + 1, (bk (sh[k]).2 i == bk c1 k), _, _, _, _, _, _, _, _, _, _, _, _, _, by first | rfl | (rw [← e3]; rfl), by omega, fun h => ?_⟩)
        by_cases hii : idx = i
        · subst hii; simp [hfi]
        · have := hfd (by omega); simp at this
    · have g2 : decide ((i : Int) < (((sh[k]).2.length / 64 : Nat) : Int)) = false := decide_eq_false (by omega)
      have hft : fd = true := hfd (by omega)
      subst hft
      have stq := (And.intro (ixg) (And.intro (ldg) (And.intro (ln) (g2))))
      repeat first
        | ((with_reducible apply ends_bind); case h => first | (simp only [stp, stq]; first | done | rfl) | rfl)
        | ((with_reducible apply ends_t); case h => first | rfl | (simp only [stp, stq]; done))
        | ((with_reducible apply ends_f); case h => first | rfl | (simp only [stp, stq]; done))
      refine ends_some (.inr (.inl ⟨8, rfl, X_l04_DiskFlushed_4_0_lit ?_⟩))
      have ew := waits_cl 998 D3 k hk8
      rw [show wl [] k = [] from rfl, show (([] : List UInt8).length / 64 : Nat) = 0 from rfl] at ew
      have cw : callA E9 md_l04_DiskFlushed y2 13 [.bp d 0, .v (.int .i64 k)] = some (.v (.int .i64 0), y2) := by rw [Pr0.call_k rfl]; exact ew
      have z0 : ((0 : Int) != 0) = false := rfl
      have e4 : IntKind.i64.wrap ((k : Int) + 1) = ((k + 1 : Nat) : Int) := by rw [wrap64]; omega
      unfold X_l04_DiskFlushed_4_0
      have stq := (And.intro (z0) (And.intro (cw) (e4)))
      repeat first
        | ((with_reducible apply ends_bind); case h => first | (simp only [stp, stq]; first | done | rfl) | rfl)
        | ((with_reducible apply ends_t); case h => first | rfl | (simp only [stp, stq]; done))
        | ((with_reducible apply ends_f); case h => first | rfl | (simp only [stp, stq]; done))
      exact ends_some (.inl ⟨rfl, r0 - 1, by omega, k + 1, y2, _, _, _, _, _, _, _, _, _, _, _, _, by first | rfl | (rw [← e4]; rfl), by omega, D3, S3, hO3⟩)
  · have g1 : decide ((k : Int) < 8) = false := decide_eq_false (by omega)
    have stq := (g1)
    repeat first
      | ((with_reducible apply ends_bind); case h => first | (simp only [stp, stq]; first | done | rfl) | rfl)
      | ((with_reducible apply ends_t); case h => first | rfl | (simp only [stp, stq]; done))
      | ((with_reducible apply ends_f); case h => first | rfl | (simp only [stp, stq]; done))
    refine ends_some (.inr (.inl ⟨6, rfl, X_l04_DiskFlushed_3_0_lit ?_⟩))
    unfold X_l04_DiskFlushed_3_0
    exact ends_some ⟨.inl rfl, _, rfl, rfl⟩
end Go.Sy
