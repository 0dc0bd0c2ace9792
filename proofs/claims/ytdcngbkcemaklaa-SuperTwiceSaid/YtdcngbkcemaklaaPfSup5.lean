/-
  Layer 8: what is to mend.
-/
import Derived.Test.YtdcngbkcemaklaaPfSup4
namespace Go.Sy
open Go.Proofs Num Crc Seal

def needS (x p : List UInt8) : Bool := !(decide (okS x) && (ld x == p))
def nb (x p : List UInt8) : List UInt8 := blk 1 (nxtT x) p
abbrev Prs := List (Nat × List UInt8)
def prs (b p : List UInt8) : Nat → Prs
  | 0 => []
  | j + 1 => prs b p j ++ if needS (bk b j) p then [(j, nb (bk b j) p)] else []
def mpE (l : Prs) : List AV := l.map fun e => .tup [.v (.int .i64 (e.1 : Int)), .agg (u8l e.2)]
def chg (e : Nat × List UInt8) : List AV := .v (.int .i64 (e.1 : Int)) :: u8l e.2
def flC (l : Prs) : List AV := l.flatMap chg
theorem nb_len (x p : List UInt8) (hp : p.length = 54) : (nb x p).length = 64 := blk_len _ _ _ hp
theorem prs_in (b p : List UInt8) (hp : p.length = 54) : ∀ (j : Nat) (e : Nat × List UInt8), e ∈ prs b p j → e.1 < j ∧ e.2.length = 64
  | 0, e, h => by simp [prs] at h
  | j + 1, e, h => by
    rw [prs, List.mem_append] at h
    rcases h with h | h
    · have := prs_in b p hp j e h
      exact ⟨by omega, this.2⟩
    · split at h
      · simp at h
        subst h
        exact ⟨by simp, nb_len _ _ hp⟩
      · simp at h
theorem prs_len (b p : List UInt8) : ∀ j : Nat, (prs b p j).length ≤ j
  | 0 => by simp [prs]
  | j + 1 => by
    have := prs_len b p j
    rw [prs, List.length_append]
    split <;> simp <;> omega
theorem mpE_keep (q : Nat → Bool) (l : Prs) : (mpE l).map (AV.keep q) = mpE l := by
  unfold mpE
  rw [List.map_map]
  congr 1
  funext e
  simp [AV.keep, AV.keepL, AV.keepL_eq, u8l_keep]
theorem mpE_bare (l : Prs) : (mpE l).map AV.bare = mpE l := by
  unfold mpE
  rw [List.map_map]
  congr 1
  funext e
  simp [AV.bare, AV.bareL, AV.bareL_eq, u8l_bare]
theorem chg_keep (q : Nat → Bool) (e : Nat × List UInt8) : (chg e).map (AV.keep q) = chg e := by
  simp [chg, AV.keep, u8l_keep]
theorem flC_keep (q : Nat → Bool) (l : Prs) : (flC l).map (AV.keep q) = flC l := by
  induction l with
  | nil => rfl
  | cons e l ih => unfold flC at *; rw [List.flatMap_cons, List.map_append, ih, chg_keep]
theorem chg_frz (bx : Bx) (f : Bool) (d : Nat) (e : Nat × List UInt8) : (chg e).map (frz bx f (d + 1)) = chg e := by
  unfold chg
  rw [List.map_cons, u8l_frz]
  rfl
theorem flC_frz (bx : Bx) (f : Bool) (d : Nat) (l : Prs) : (flC l).map (frz bx f (d + 1)) = flC l := by
  induction l with
  | nil => rfl
  | cons e l ih => unfold flC at *; rw [List.flatMap_cons, List.map_append, ih, chg_frz]
theorem flC_app (l : Prs) (e : Nat × List UInt8) : flC (l ++ [e]) = flC l ++ chg e := by
  unfold flC
  rw [List.flatMap_append, List.flatMap_singleton]
theorem flC_len : ∀ (l : Prs), (∀ e ∈ l, e.2.length = 64) → (flC l).length = l.length * 65
  | [], _ => rfl
  | e :: l, h => by
    have ih := flC_len l fun e he => h e (by simp [he])
    unfold flC at *
    rw [List.flatMap_cons, List.length_append, ih, List.length_cons]
    have : (chg e).length = 65 := by simp [chg, u8l_len, h e (by simp)]
    omega

theorem mp_t : mpT Try.prog 43 = some (3, 32) := by kernel_rfl
theorem in_i : inA Try.prog 3 = some .i64 := by kernel_rfl
theorem put_new (n : Nat) (v : AV) : ∀ (l : Prs), (∀ e ∈ l, e.1 ≠ n) → putL .i64 (n : Int) v (mpE l) = some (mpE l ++ [.tup [.v (.int .i64 n), v]])
  | [], _ => rfl
  | e :: l, h => by
    have ih := put_new n v l fun e he => h e (by simp [he])
    have hne := h e (by simp)
    show putL .i64 (n : Int) v (.tup [.v (.int .i64 (e.1 : Int)), .agg (u8l e.2)] :: mpE l) = _
    unfold putL
    rw [if_pos rfl]
    have : ((n : Int) == (e.1 : Int)) = false := by simp; omega
    rw [this, ih]
    rfl
theorem upM (bx : Bx) (c : Nat) (l : Prs) (hb : bx[c]? = some (mpE l)) (n : Nat) (hn : ∀ e ∈ l, e.1 ≠ n) (q : List UInt8) : upV Try.prog 43 bx (.mp c) (.v (.int .i64 (n : Int))) (.agg (u8l q)) = some (.v undef, bx.set c (mpE (l ++ [(n, q)]))) := by
  unfold upV updA
  simp only [mp_t, Option.bind_some, in_i, if_true, hb, put_new n _ l hn, Option.map_some]
  simp [mpE]
theorem fnd_spec {b : List UInt8} {n i : Nat} (h : fnd b n = some i) : i < 2 ∧ 2 ≤ n ∧ hitS (bk b i) n := by
  unfold fnd at h
  split at h
  · rename_i hn
    split at h
    · simp at h; subst h; exact ⟨by omega, hn, by assumption⟩
    · split at h
      · simp at h; subst h; exact ⟨by omega, hn, by assumption⟩
      · simp at h
  · simp at h
theorem put_ld {x : List UInt8} (h : okG (ld x)) : supV (w0 x) (w1 x) (w2 x) = .tup [.agg (u8l (ld x)), .v (.int .i64 0)] := by
  unfold supV
  rw [if_pos h.1]
  show AV.tup [.agg (u8l (sb (wd (ld x) 0) (wd (ld x) 1) (wd (ld x) 2))), _] = _
  rw [h.2]
theorem put1 (x p : List UInt8) : putV 1 (nxtT x) p = .tup [.agg (u8l (nb x p)), .v (.int .i64 0)] := by
  unfold putV
  rw [if_pos (by decide)]
  rfl
set_option maxRecDepth 100000 in
theorem Mend_some {k : Nat} (hk : 520 ≤ k) (f : Bool) (n : Nat) (b : List UInt8) (hb : b.length = n * 64) (i : Nat) (hf : fnd b n = some i) :
    ∃ g : List AV, evFn cx0 ext0 k 17 [bll f n b] [] = some (.tup [.mp 2, .v (.int .i64 0)], [g, u8l (ld (bk b i)), mpE (prs b (ld (bk b i)) 2)]) := by
  obtain ⟨m, rfl⟩ : ∃ m, k = m + 1 := ⟨k - 1, by omega⟩
  obtain ⟨hi2, hn, hh⟩ := fnd_spec hf
  have c1 := Find_ev (k := m) (by omega) f n b hb
  have hfe : fndV b n = .tup [gV (w0 (bk b i)) (w1 (bk b i)) (w2 (bk b i)), .v (.int .i64 i), .v (.int .i64 0)] := by unfold fndV; rw [hf]
  rw [hfe] at c1
  have c2 := SPut_ev (k := m) (by omega) (w0 (bk b i)) (w1 (bk b i)) (w2 (bk b i))
  rw [put_ld hh.2.1] at c2
  have hxi := bk_len (b := b) (i := i) (n := n) (by omega) hb
  have hp := ld_len hxi
  generalize ld (bk b i) = p at *
  generalize w0 (bk b i) = u0 at *
  generalize w1 (bk b i) = u1 at *
  generalize w2 (bk b i) = u2 at *
  have fb := fun bx => frz_bll bx 5 n f b
  have aL := al_a hL (P := Try.prog)
  have aB := al_a hB (P := Try.prog)
  have lL := lds hL (P := Try.prog)
  have lB := lds hB (P := Try.prog)
  have sL := sts hL (P := Try.prog)
  have sB := sts hB (P := Try.prog)
  have zl : (zero 54).length = 54 := rfl
  have zl' : (List.replicate 54 (0 : UInt8)).length = 54 := rfl
  have zl6' : (List.replicate 64 (0 : UInt8)).length = 64 := rfl
  have z0 : ((0 : Int) != 0) = false := rfl
  have s2 := fun bx => sl2_bl bx f n b hn .i64
  have hb2 : (b.take 128).length = 2 * 64 := by rw [List.length_take]; omega
  refine ⟨gC u0 u1 u2, ?_⟩
  rw [E_super_Mend]
  refine ends_fin (P := Try.prog) ?_
  unfold F_super_Mend
  have stq := (And.intro (fb) (And.intro (c1) (And.intro (al_g) (And.intro (sg0) (And.intro (z0) (And.intro (lg0) (And.intro (frz_g) (And.intro (c2) (And.intro (aL) (And.intro (zl') (And.intro (hp) (And.intro (sL) (And.intro (s2) (ln_bl))))))))))))))
  repeat first
    | ((with_reducible apply ends_bind); case h => first | (simp only [stp, stq]; first | done | rfl) | rfl)
    | ((with_reducible apply ends_t); case h => first | rfl | (simp only [stp, stq]; done))
    | ((with_reducible apply ends_f); case h => first | rfl | (simp only [stp, stq]; done))
  refine ends_loop (fun d s => ∃ (j : Nat) (y22 y6 y3 y2 : AV) (d0 d1 d2 : List AV), s = ⟨[(33, .v (.int .i64 j)), (32, .v (.int .i64 (2 : Nat))), (31, .sl 2 (u8l (b.take 128)) f), (9, .mp 2), (7, .bp 1 0), (22, y22), (6, .v (.int .i64 0)), (4, .bp 0 0), (3, y3), (2, y2), (0, bll f n b)], [d0, d1, d2]⟩ ∧ d0 = gC u0 u1 u2 ∧ d1 = u8l p ∧ d2 = mpE (prs b p j) ∧ j + d = 2) 2 (by omega) ⟨0, _, .junk, _, _, _, _, _, rfl, rfl, rfl, rfl, by omega⟩ ?_
  rintro d s ⟨j, y22, y6, y3, y2, d0, d1, d2, rfl, rfl, rfl, rfl, hd⟩
  refine L_super_Mend_0_lit ?_
  unfold B_super_Mend_0
  by_cases hj : j < 2
  · have g1 : decide ((j : Int) < (2 : Nat)) = true := decide_eq_true (by omega)
    have i1 := ix_bl f 2 (b.take 128) hb2 .i64 j hj
    have l1 := fun bx => ld_bl bx f (b.take 128) j 2 hb2 hj
    rw [show bk (b.take 128) j = bk b j from bk_take (m := 2) hj] at l1
    have hx := bk_len (b := b) (i := j) (n := n) (by omega) hb
    have e3 : IntKind.i64.wrap ((j : Int) + 1) = ((j + 1 : Nat) : Int) := by rw [wrap64]; omega
    have hps : prs b p (j + 1) = prs b p j ++ if needS (bk b j) p then [(j, nb (bk b j) p)] else [] := rfl
    have u1 := fun A B C D q => upM [A, B, mpE (prs b p j), C, D] 2 (prs b p j) rfl j (fun e he => by have := (prs_in b p hp j e he).1; omega) q
    generalize hX : bk b j = x at *
    have c3 := Get_ev (n := m) (by omega) 1 x hx
    rw [got1] at c3
    have c4 := Next_ev (n := m) (by omega) 1 x hx p hp
    rw [put1] at c4
    by_cases h1 : okS x
    · rw [if_pos h1] at c3
      have hl := ld_len hx
      have e1 := (eq_a hL (P := Try.prog) hl hp).2
      by_cases h2 : ld x = p
      · have hq : (ld x == p) = true := by simpa using h2
        have hne : needS x p = false := by unfold needS; rw [decide_eq_true h1, hq]; rfl
        rw [hq] at e1
        rw [hne] at hps
        have stq := (And.intro (g1) (And.intro (i1) (And.intro (l1) (And.intro (hx) (And.intro (hl) (And.intro (hp) (And.intro (zl') (And.intro (zl6') (And.intro (aB) (And.intro (sB) (And.intro (lB) (And.intro (frz_agg) (And.intro (c3) (And.intro (aL) (And.intro (sL) (And.intro (lL) (And.intro (z0) (And.intro (e1) (And.intro (n_tf') (e3))))))))))))))))))))
        repeat first
          | ((with_reducible apply ends_bind); case h => first | (simp only [stp, stq]; first | done | rfl) | rfl)
          | ((with_reducible apply ends_t); case h => first | rfl | (simp only [stp, stq]; done))
          | ((with_reducible apply ends_f); case h => first | rfl | (simp only [stp, stq]; done))
        exact ends_some (.inl ⟨rfl, d - 1, by omega, j + 1, _, .junk, _, _, _, _, _, by first | rfl | (rw [← e3]; rfl), rfl, u8l_keep _ _, by rw [hps]; simp [mpE_keep], by omega⟩)
      · have hq : (ld x == p) = false := by simpa using h2
        have hne : needS x p = true := by unfold needS; rw [decide_eq_true h1, hq]; rfl
        rw [hq] at e1
        rw [hne] at hps
        have stq := (And.intro (g1) (And.intro (i1) (And.intro (l1) (And.intro (hx) (And.intro (hl) (And.intro (hp) (And.intro (zl') (And.intro (zl6') (And.intro (aB) (And.intro (sB) (And.intro (lB) (And.intro (frz_agg) (And.intro (c3) (And.intro (aL) (And.intro (sL) (And.intro (lL) (And.intro (z0) (And.intro (e1) (And.intro (n_ft') (And.intro (c4) (And.intro (u1) (e3))))))))))))))))))))))
        repeat first
          | ((with_reducible apply ends_bind); case h => first | (simp only [stp, stq]; first | done | rfl) | rfl)
          | ((with_reducible apply ends_t); case h => first | rfl | (simp only [stp, stq]; done))
          | ((with_reducible apply ends_f); case h => first | rfl | (simp only [stp, stq]; done))
        exact ends_some (.inl ⟨rfl, d - 1, by omega, j + 1, _, .junk, _, _, _, _, _, by first | rfl | (rw [← e3]; rfl), rfl, u8l_keep _ _, by rw [hps]; simp [mpE_keep], by omega⟩)
    · rw [if_neg h1] at c3
      have hne : needS x p = true := by unfold needS; rw [decide_eq_false h1]; rfl
      rw [hne] at hps
      have z1 : ((21 : Int) != 0) = true := rfl
      have stq := (And.intro (g1) (And.intro (i1) (And.intro (l1) (And.intro (hx) (And.intro (hp) (And.intro (zl) (And.intro (zl') (And.intro (zl6') (And.intro (aB) (And.intro (sB) (And.intro (lB) (And.intro (frz_agg) (And.intro (c3) (And.intro (aL) (And.intro (sL) (And.intro (lL) (And.intro (z1) (And.intro (c4) (And.intro (u1) (e3))))))))))))))))))))
      repeat first
        | ((with_reducible apply ends_bind); case h => first | (simp only [stp, stq]; first | done | rfl) | rfl)
        | ((with_reducible apply ends_t); case h => first | rfl | (simp only [stp, stq]; done))
        | ((with_reducible apply ends_f); case h => first | rfl | (simp only [stp, stq]; done))
      exact ends_some (.inl ⟨rfl, d - 1, by omega, j + 1, _, .junk, _, _, _, _, _, by first | rfl | (rw [← e3]; rfl), rfl, u8l_keep _ _, by rw [hps]; simp [mpE_keep], by omega⟩)
  · have g1 : decide ((j : Int) < (2 : Nat)) = false := decide_eq_false (by omega)
    have hj2 : j = 2 := by omega
    subst hj2
    have stq := (g1)
    repeat first
      | ((with_reducible apply ends_bind); case h => first | (simp only [stp, stq]; first | done | rfl) | rfl)
      | ((with_reducible apply ends_t); case h => first | rfl | (simp only [stp, stq]; done))
      | ((with_reducible apply ends_f); case h => first | rfl | (simp only [stp, stq]; done))
    exact ends_some (.inr (.inl ⟨0, rfl, X_super_Mend_0_0_lit (ends_some ⟨.inl rfl, _, rfl, rfl⟩)⟩))
theorem Mend_none {k : Nat} (hk : 520 ≤ k) (f : Bool) (n : Nat) (b : List UInt8) (hb : b.length = n * 64) (hf : fnd b n = none) :
    evFn cx0 ext0 k 17 [bll f n b] [] = some (.tup [.v (.map none), .v (.int .i64 22)], [gC 0 0 0]) := by
  obtain ⟨m, rfl⟩ : ∃ m, k = m + 1 := ⟨k - 1, by omega⟩
  have c1 := Find_ev (k := m) (by omega) f n b hb
  have hfe : fndV b n = .tup [gV 0 0 0, .v (.int .i64 0), .v (.int .i64 22)] := by unfold fndV; rw [hf]
  rw [hfe] at c1
  have fb := fun bx => frz_bll bx 5 n f b
  have z0 : ((22 : Int) != 0) = true := rfl
  rw [E_super_Mend]
  refine ends_fin (P := Try.prog) ?_
  unfold F_super_Mend
  have stq := (And.intro (fb) (And.intro (c1) (And.intro (al_g) (And.intro (sg0) (z0)))))
  repeat first
    | ((with_reducible apply ends_bind); case h => first | (simp only [stp, stq]; first | done | rfl) | rfl)
    | ((with_reducible apply ends_t); case h => first | rfl | (simp only [stp, stq]; done))
    | ((with_reducible apply ends_f); case h => first | rfl | (simp only [stp, stq]; done))
  exact ends_some ⟨.inl rfl, _, rfl, rfl⟩
theorem mend_some {k : Nat} (hk : 520 ≤ k) {md : FuncId → Md} (hmd : md 17 = .boxed) (bx : Bx) (x : AV) (f : Bool) (n : Nat) (b : List UInt8) (hx : frz bx true 6 x = bll f n b) (hb : b.length = n * 64) (i : Nat) (hf : fnd b n = some i) :
    callA (evFn cx0 ext0 k) md bx 17 [x] = some (.tup [.mp bx.length, .v (.int .i64 0)], bx ++ [mpE (prs b (ld (bk b i)) 2)]) := by
  obtain ⟨g, h⟩ := Mend_some hk f n b hb i hf
  unfold callA
  rw [hmd]
  simp only [List.map_cons, List.map_nil, hx, h, Option.map_some, expo]
  simp [mpE_bare, AV.bare]
theorem mend_none {k : Nat} (hk : 520 ≤ k) {md : FuncId → Md} (hmd : md 17 = .boxed) (bx : Bx) (x : AV) (f : Bool) (n : Nat) (b : List UInt8) (hx : frz bx true 6 x = bll f n b) (hb : b.length = n * 64) (hf : fnd b n = none) :
    callA (evFn cx0 ext0 k) md bx 17 [x] = some (.tup [.v (.map none), .v (.int .i64 22)], bx) := by
  have h := Mend_none hk f n b hb hf
  unfold callA
  rw [hmd]
  simp only [List.map_cons, List.map_nil, hx, h, Option.map_some, expo]
  simp [AV.bare, AV.bareL]
end Go.Sy
