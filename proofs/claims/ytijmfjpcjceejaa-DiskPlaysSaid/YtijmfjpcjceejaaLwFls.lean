/-
  Layer 04: the laws' calls of disk's functions, in the laws' own words. The law DiskFlushed as the reader reads it. The law DiskFlushed as the reader reads it: what is written behind the flush. The law DiskFlushed as the reader reads it: its beginning, and the whole. The law DiskFlushed: its arguments.
-/
import Derived.Test.YtijmfjpcjceejaaFn
import Derived.Test.YtijmfjpcjceejaaPfCon3
namespace Go.Sy
open Go.Proofs
open Go.Sy.Pr0 (Wt Ws wEs DB DQ dbA dbA_of dbA_inv shw wl nilP)

theorem works_v : cf (evFn cx0 ext0 600) 6 [] = some (.v (.bool true)) := by kernel_rfl
theorem ev_extD {f : FuncId} {args : List AV} {bx : Bx} {r : AV × Bx} (k : Nat) (h : extD f args bx = some r) : evFn cx0 ext0 (k + 1) f args bx = some r := by
  show (match ext0 f args bx with | some r => some r | none => _) = _
  have : ext0 f args bx = some r := by
    show extE f args bx = some r
    unfold extE
    rw [h]
  rw [this]
theorem ev_dfn {f : FuncId} {args : List AV} {bx : Bx} {r : AV × Bx} (k : Nat) (h1 : f ≠ 12) (h2 : f ≠ 10) (h3 : f ≠ 26) (h4 : Pr0.dfn.contains f = true) (h : evFn Pr0.cx0 Pr0.ext0 1000 f args bx = some r) : evFn cx0 ext0 (k + 1) f args bx = some r := by
  refine ev_extD k ?_
  unfold extD Pr0.ext1
  rw [if_neg h1, if_neg h2, if_neg h3, if_pos h4]
  exact h
theorem write_cl (k : Nat) {O : Nat → Prop} {bx : Bx} {d s n m cl : Nat} {z : Int} {c : List UInt8} {bs : List Nat} {ws : Ws} (D : DB O bx d s n m cl nilP z c bs ws) (hO : ∀ j, O j → j < bx.length) {i : Nat} (hi : i < n) {b : List UInt8} (hb : b.length = 64)
    (hbig : (wl ws i).length < 2 ^ 31) :
    ∃ (bx' : Bx) (O' : Nat → Prop) (cl' : Nat) (bs' : List Nat) (ws' : Ws), evFn cx0 ext0 (k + 1) 8 [.bp d 0, .v (.int .i64 i), .agg (u8l b)] bx = some (.v (.int .i64 0), bx') ∧
      DB O' bx' d s n m cl' nilP (IntKind.i64.wrap (z + 1)) c bs' ws' ∧ (∀ j, wl ws' j = if j = i then wl ws i ++ b else wl ws j) ∧ (∀ j, O j → O' j) ∧ (∀ j, O' j → O j ∨ bx.length ≤ j) ∧ (∀ j, O' j → j < bx'.length) ∧
      (∀ j, j < bx.length → ¬ O j → bx'[j]? = bx[j]?) ∧ bx.length ≤ bx'.length ∧ (Pr0.Good bx → Pr0.Good bx') := by
  obtain ⟨bx', O', cl', bs', ws', h, h'⟩ := Pr0.write_nil 997 D hO hi hb hbig
  exact ⟨bx', O', cl', bs', ws', ev_dfn k (by decide) (by decide) (by decide) (by decide) h, h'⟩
theorem read_cl (k : Nat) {O : Nat → Prop} {bx : Bx} {d s n m cl : Nat} {p : AV} {z : Int} {c : List UInt8} {bs : List Nat} {ws : Ws} (D : DB O bx d s n m cl p z c bs ws) (i : Nat) (hi : i < n) :
    ∃ t : Bx, evFn cx0 ext0 (k + 1) 11 [.bp d 0, .v (.int .i64 i)] bx = some (.tup [.agg (u8l (shw c ws i)), .v (.int .i64 0)], bx ++ t) ∧ Pr0.Good t := by
  obtain ⟨t, h, ht⟩ := Pr0.read_ev 998 D i hi
  exact ⟨t, ev_dfn k (by decide) (by decide) (by decide) (by decide) h, ht⟩
theorem waits_cl (k : Nat) {O : Nat → Prop} {bx : Bx} {d s n m cl : Nat} {p : AV} {z : Int} {c : List UInt8} {bs : List Nat} {ws : Ws} (D : DB O bx d s n m cl p z c bs ws) (i : Nat) (hi : i < n) :
    evFn cx0 ext0 (k + 1) 13 [.bp d 0, .v (.int .i64 i)] bx = some (.v (.int .i64 ((wl ws i).length / 64 : Nat)), bx) :=
  ev_dfn k (by decide) (by decide) (by decide) (by decide) (Pr0.waits_ev 998 D i hi)
theorem fl_len {O : Nat → Prop} {bx : Bx} {d s n m cl : Nat} {p : AV} {z : Int} {c : List UInt8} {bs : List Nat} {ws : Ws} (D : DB O bx d s n m cl p z c bs ws) : ∀ q ∈ ws, (Pre.flBlk q.1 q.2.2).length = 64 := fun q hq => by
  obtain ⟨w1, w2, w3, w4, w5, w6⟩ := D.hw q hq
  exact bk_len (n := q.2.2.length / 64) (by omega) (by omega)
theorem flush_cl (k : Nat) {O : Nat → Prop} {bx : Bx} {d s n m cl : Nat} {z : Int} {c : List UInt8} {bs : List Nat} {ws : Ws} (D : DB O bx d s n m cl nilP z c bs ws) (hn : 0 < n) (hg : Pr0.Good bx) :
    ∃ (bx' : Bx) (c' : List UInt8), evFn cx0 ext0 (k + 1) 10 [.bp d 0] bx = some (.v (.int .i64 0), bx') ∧ DB O bx' d s n m cl nilP z c' [] [] ∧ (∀ j, j < n → bk c' j = shw c ws j) ∧
      (∀ j, ¬ O j → bx'[j]? = bx[j]?) ∧ bx'.length = bx.length ∧ Pr0.Good bx' := by
  have hu := Pr0.use_ev 998 D.hd (0 : Nat) D.slt
  rw [if_pos (by omega)] at hu
  obtain ⟨h1, h2⟩ := layS_bk D (fl_len D)
  refine ⟨_, _, ev_extD k (r := (.v (.int .i64 0), (bx.set s (u8l (flC ⟨s, n, m, cl, nilP, z, c, bs, ws⟩))).set m [stH cl []])) ?_, DB.empty D h1, fun j hj => ?_, fun j hO => ?_, by simp, Good.empty hg _ _ _ _⟩
  · unfold extD flA
    rw [if_neg (by decide), if_pos rfl]
    have hu' : evFn Pr0.cx0 Pr0.ext0 1000 25 [.bp d 0, .v (.int .i64 0)] bx = some (.v (.int .i64 0), bx) := hu
    simp only [hu', Option.bind_some, Nat.le_refl, if_true, dbA_of D]
    rw [if_pos (all_Good hg)]
  · show bk (Pre.layS Pre.flBlk n c bs ws bs) j = _
    rw [h2 j hj]
    rfl
  · have n1 : j ≠ s := fun e => hO (e ▸ D.od.2.1)
    have n2 : j ≠ m := fun e => hO (e ▸ D.od.2.2)
    rw [List.getElem?_set_ne (Ne.symm n2), List.getElem?_set_ne (Ne.symm n1)]
theorem cr_len {O : Nat → Prop} {bx : Bx} {d s n m cl : Nat} {p : AV} {z : Int} {c : List UInt8} {bs : List Nat} {ws : Ws} (D : DB O bx d s n m cl p z c bs ws) (ks : List Int) : ∀ q ∈ ws, (Pre.crBlk ks c q.1 q.2.2).length = 64 := fun q hq => Pre.crBlk_len (Pre.DB.wok D) D.hc ks q hq
theorem crash_cl (k : Nat) {O : Nat → Prop} {bx : Bx} {d s n m cl : Nat} {p : AV} {z : Int} {c : List UInt8} {bs : List Nat} {ws : Ws} (D : DB O bx d s n m cl p z c bs ws) {keep : AV} {ks : List Int} (hk : keepA bx s keep = some ks) :
    ∃ (bx' : Bx) (c' : List UInt8), evFn cx0 ext0 (k + 1) 12 [.bp d 0, keep] bx = some (.tup [], bx') ∧ DB O bx' d s n m cl p z c' [] [] ∧ (∀ j, j < n → bk c' j = if 0 < (wl ws j).length then Pre.crBlk ks c j (wl ws j) else bk c j) ∧
      (∀ j, ¬ O j → bx'[j]? = bx[j]?) ∧ bx'.length = bx.length ∧ (Pr0.Good bx → Pr0.Good bx') := by
  obtain ⟨h1, h2⟩ := layS_bk D (cr_len D ks)
  refine ⟨_, _, ev_extD k (r := (.tup [], (bx.set s (u8l (crC ks ⟨s, n, m, cl, p, z, c, bs, ws⟩))).set m [stH cl []])) ?_, DB.empty D h1, fun j hj => h2 j hj, fun j hO => ?_, by simp, fun hg => Good.empty hg _ _ _ _⟩
  · unfold extD
    rw [if_pos rfl]
    simp only [dbA_of D, Option.bind_some, hk, Option.map_some]
  · have n1 : j ≠ s := fun e => hO (e ▸ D.od.2.1)
    have n2 : j ≠ m := fun e => hO (e ▸ D.od.2.2)
    rw [List.getElem?_set_ne (Ne.symm n2), List.getElem?_set_ne (Ne.symm n1)]
/-- a number as one from 0 to n - 1 -/
theorem among_ev (m : Nat) (x : Int) (n : Nat) (h0 : 0 < n) (h1 : n < 2 ^ 62) : ∃ k : Nat, k < n ∧ cf (evFn cx0 ext0 (m + 1)) 9 [.v (.int .i64 x), .v (.int .i64 n)] = some (.v (.int .i64 k)) := by
  have k1 : IntKind.u64.wrap (n : Int) = n := by rw [wrapu64]; omega
  have k0 : (0 : Int) ≤ IntKind.u64.wrap x := by rw [wrapu64]; omega
  have k2 : (IntKind.u64.wrap x).tmod n = IntKind.u64.wrap x % n := Int.tmod_eq_emod_of_nonneg k0
  have k3 : 0 ≤ IntKind.u64.wrap x % n := Int.emod_nonneg _ (by omega)
  have k4 : IntKind.u64.wrap x % n < n := Int.emod_lt_of_pos _ (by omega)
  refine ⟨(IntKind.u64.wrap x % n).toNat, by omega, ?_⟩
  have k5 : IntKind.i64.wrap (IntKind.u64.wrap x % n) = ((IntKind.u64.wrap x % n).toNat : Int) := by rw [wrap64]; omega
  have h2 : decide ((n : Int) < 1) = false := decide_eq_false (by omega)
  have h4 : binA Try.prog .rem 65 (.v (.int .u64 (IntKind.u64.wrap x))) (.v (.int .u64 n)) = some (.v (.int .u64 (IntKind.u64.wrap x % n))) := by
    rw [bin_rem _ _ _ _ _ (by omega), k2]
  unfold cf
  rw [E_base_Among]
  refine ends_cf (P := Try.prog) ?_
  unfold F_base_Among
  have stq := (And.intro (h2) (And.intro (k1) (h4)))
  repeat first
    | ((with_reducible apply ends_bind); case h => first | (simp only [stp, stq]; first | done | rfl) | rfl)
    | ((with_reducible apply ends_t); case h => first | rfl | (simp only [stp, stq]; done))
    | ((with_reducible apply ends_f); case h => first | rfl | (simp only [stp, stq]; done))
  exact ends_some ⟨.inl rfl, _, rfl, congrArg (fun q => AV.v (.int .i64 q)) k5⟩
/-- acts: where, and a block -/
structure Acts (x : AV) (L : List (Int × List UInt8)) : Prop where
  ln : lenA Try.prog 22 x = some (.v (.int .i64 L.length))
  ix : ∀ i (h : i < L.length), ∃ a a1 a2, indexAddrA Try.prog 22 x (.v (.int .i64 i)) = some a ∧ fieldAddrA Try.prog 34 a 1 = some a1 ∧ fieldAddrA Try.prog 34 a 2 = some a2 ∧
    (∀ bx, loadA Try.prog 3 bx a1 = some (.v (.int .i64 L[i].1))) ∧ (∀ bx, loadA Try.prog 32 bx a2 = some (.agg (u8l L[i].2))) ∧ L[i].2.length = 64
end Go.Sy

namespace Go.Sy
open Go.Proofs
open Go.Sy.Pr0 (Wt Ws wEs DB DQ dbA dbA_of dbA_inv shw wl nilP)

/-- what was shown of a sector: a list of blocks -/
abbrev Sq := Nat × List UInt8
def gv (q : Sq) : AV := .gs q.1 (q.2.length / 64) 64
abbrev nilS : AV := .v (.slice none 0 0)
def shC (sh : List Sq) : List AV := sh.map gv ++ List.replicate (8 - sh.length) nilS
structure Shn (O : Nat → Prop) (bx : Bx) (g : Nat) (sh : List Sq) : Prop where
  hg : bx[g]? = some (shC sh)
  hl : sh.length ≤ 8
  hq : ∀ q ∈ sh, bx[q.1]? = some (u8l q.2) ∧ q.2.length % 64 = 0 ∧ 0 < q.2.length ∧ q.2.length ≤ 64 * 100 ∧ ¬ O q.1 ∧ q.1 ≠ g
  nd : (sh.map (·.1)).Nodup
  og : ¬ O g
theorem Shn.frame {O O' : Nat → Prop} {bx bx' : Bx} {g : Nat} {sh : List Sq} (h : Shn O bx g sh) (h1 : ∀ j, j < bx.length → ¬ O j → bx'[j]? = bx[j]?) (h2 : ∀ j, O' j → O j ∨ bx.length ≤ j) : Shn O' bx' g sh := by
  have lt : ∀ {i : Nat} {l : List AV}, bx[i]? = some l → i < bx.length := fun h => (List.getElem?_eq_some_iff.1 h).1
  have no : ∀ {i : Nat}, ¬ O i → i < bx.length → ¬ O' i := fun h h' h'' => (h2 _ h'').elim h (by omega)
  refine ⟨by rw [h1 g (lt h.hg) h.og]; exact h.hg, h.hl, fun q hq => ?_, h.nd, no h.og (lt h.hg)⟩
  obtain ⟨q1, q2, q3, q4, q5, q6⟩ := h.hq q hq
  exact ⟨by rw [h1 q.1 (lt q1) q5]; exact q1, q2, q3, q4, no q5 (lt q1), q6⟩
theorem Shn.app {O : Nat → Prop} {bx : Bx} {g : Nat} {sh : List Sq} (h : Shn O bx g sh) (hO : ∀ j, O j → j < bx.length) (t : Bx) : Shn O (bx ++ t) g sh :=
  h.frame (fun j hj _ => List.getElem?_append_left hj) fun j hj => .inl hj
theorem shC_len {sh : List Sq} (h : sh.length ≤ 8) : (shC sh).length = 8 := by
  simp [shC]; omega
theorem shC_get {sh : List Sq} {k : Nat} (h : k < sh.length) : (shC sh)[k]? = some (gv sh[k]) := by
  unfold shC
  rw [List.getElem?_append_left (by simpa using h), List.getElem?_map, List.getElem?_eq_getElem h]
  rfl
theorem shC_new {sh : List Sq} (h : sh.length < 8) (q : Sq) : (shC sh).set sh.length (gv q) = shC (sh ++ [q]) := by
  unfold shC
  obtain ⟨r, hr⟩ : ∃ r, 8 - sh.length = r + 1 := ⟨7 - sh.length, by omega⟩
  rw [hr, List.set_append_right _ _ (by simp), List.map_append, List.length_map, Nat.sub_self, List.replicate_succ, List.set_cons_zero, List.append_assoc, List.length_append, show 8 - (sh.length + [q].length) = r by simp; omega]
  rfl
theorem shC_set {sh : List Sq} {k : Nat} (h : k < sh.length) (q : Sq) : (shC sh).set k (gv q) = shC (sh.set k q) := by
  unfold shC
  rw [List.set_append_left _ _ (by simpa using h), List.map_set, List.length_set]
theorem t36 : arA Try.prog 36 = some (8, 35) ∧ szA Try.prog 35 = some 1 ∧ agA Try.prog 35 = some false := ⟨by kernel_rfl, by kernel_rfl, by kernel_rfl⟩
theorem ix_sh (g k : Nat) (hk : k < 8) : indexAddrA Try.prog 36 (.bp g 0) (.v (.int .i64 k)) = some (.bp g k) := by
  unfold indexAddrA
  simp only [t36.1, t36.2.1, Option.bind_some, idxI]
  rw [if_pos ⟨by omega, by omega⟩]
  simp
theorem ld_sh {bx : Bx} {g k : Nat} {l : List AV} (h : bx[g]? = some l) {x : AV} (hx : l[k]? = some x) : loadA Try.prog 35 bx (.bp g k) = some x := by
  simp only [loadA, h, Option.bind_some, partA, t36.2.1, t36.2.2]
  exact hx
theorem st_sh {bx : Bx} {g k : Nat} {l : List AV} (h : bx[g]? = some l) (hk : k < l.length) (q : Sq) : stA Try.prog 35 bx (.bp g k) (gv q) = some (.v undef, bx.set g (l.set k (gv q))) := by
  unfold stA storeA
  simp only [t36.2.1, h, Option.bind_some]
  rw [if_pos ⟨rfl, rfl, by omega⟩]
  rfl
theorem mk_g1 (bx : Bx) {b : List UInt8} (hb : b.length = 64) : buildSliceG Try.prog bx 35 1 [(0, .agg (u8l b))] = some (.gs bx.length 1 64, bx ++ [u8l b]) := by
  unfold buildSliceG
  rw [Pr0.mk_b1 bx hb]
  simp [toG, Pr0.isV_u8l]
theorem rd_g1 {bx : Bx} {t : Nat} {b : List UInt8} (ht : bx[t]? = some (u8l b)) (hb : b.length = 64) : readA bx (.gs t 1 64) = some (1, u8l b) := by
  unfold readA
  simp only [ht, Option.map_some]
  rw [List.take_of_length_le (by rw [u8l_len]; omega)]
theorem ap_gg {bx : Bx} {n0 c t : Nat} {e b : List UInt8} (hc : bx[c]? = some (u8l e)) (he : e.length % 64 = 0) (hbig : e.length < 2 ^ 32) (ht : bx[t]? = some (u8l b)) (hb : b.length = 64) :
    appA Try.prog n0 bx 35 (.gs c (e.length / 64) 64) (.gs t 1 64) = some (gv (c, e ++ b), fun x => x, bx.set c (u8l (e ++ b))) := by
  unfold appA
  simp only [el_bl.1, if_true, el_bl.2.1, el_bl.2.2, by_bl, zc_bl, Option.bind_some, rd_g1 ht hb]
  rw [if_pos ⟨by rw [u8l_len, hb], by omega, by simp [u8l_len], by omega, by omega, by omega⟩]
  simp only [hc, Option.bind_some]
  rw [if_pos ⟨by rw [u8l_len]; omega, trivial, by omega, Pr0.isV_u8l b⟩, u8l_app]
  unfold gv
  simp only [List.length_append, hb]
  rw [show (e.length + 64) / 64 = e.length / 64 + 1 by omega]
theorem eqCs_shC (sh : List Sq) : eqCs (shC sh) (shC sh) = true := by
  unfold shC
  refine Pr0.eqCs_app ?_ ?_
  · induction sh with
    | nil => rfl
    | cons q sh ih =>
      simp only [List.map_cons, eqCs, gv, eqC, eqD, beq_self_eq_true, Bool.and_self, Bool.true_and]
      exact ih
  · generalize 8 - sh.length = r
    induction r with
    | zero => rfl
    | succ r ih =>
      rw [List.replicate_succ]
      simp only [eqCs, eqC, eqD, eqV, beq_self_eq_true, Bool.and_self, Bool.true_and]
      exact ih
theorem bk_app {a b : List UInt8} (ha : a.length = 64) (i : Nat) : bk (a ++ b) (i + 1) = bk b i := by
  unfold bk
  rw [show (i + 1) * 64 = 64 + i * 64 by omega, ← List.drop_drop, ← ha, List.drop_left]
theorem bk_app0 {a b : List UInt8} (ha : a.length = 64) : bk (a ++ b) 0 = a := by
  unfold bk
  rw [Nat.zero_mul, List.drop_zero, ← ha, List.take_left]
abbrev QT := RetQ Try.prog [.tmp 6] (.v (.bool true))
noncomputable abbrev E9 : FnA := evFn cx0 ext0 999

/-- the last loop: each sector is read, and looked for -/
theorem stage3 {O : Nat → Prop} {bx : Bx} {d s m cl g : Nat} {z : Int} {c : List UInt8} {bs : List Nat} {ws : Ws} {sh : List Sq} {ks : List Int} (D : DB O bx d s 8 m cl nilP z c bs ws) (hO : ∀ j, O j → j < bx.length) (S : Shn O bx g sh) (h8 : sh.length = 8)
    (hsh : ∀ k (h : k < sh.length), (sh[k]).2 = bk c k ++ wl ws k) {x2 : AV} (hk : ∀ bx s, keepA bx s x2 = some ks) (x75 x14 x55 x11 x53 x34 x9 x22 x6 x0 x1 : AV) :
    Ends (X_l04_DiskFlushed_2_0 E9 999 0 x75 x14 x55 x11 x53 (.bp g 0) x34 x9 (.bp d 0) x22 x6 x0 x1 x2 bx) QT := by
  obtain ⟨bx1, c1, e1, D1, hc1, f1, l1, _⟩ := crash_cl 998 D (hk bx s)
  have cc : callA E9 md_l04_DiskFlushed bx 12 [.bp d 0, x2] = some (.tup [], bx1) := by rw [Pr0.call_k rfl]; exact e1
  have S1 : Shn O bx1 g sh := S.frame (fun j _ hj => f1 j hj) fun j hj => .inl hj
  have hO1 : ∀ j, O j → j < bx1.length := fun j hj => by rw [l1]; exact hO j hj
  -- what is found
  have hfound : ∀ k (h : k < sh.length), ∃ idx, idx < (sh[k]).2.length / 64 ∧ bk (sh[k]).2 idx = bk c1 k := by
    intro k h
    obtain ⟨q1, q2, q3, _⟩ := S.hq _ (List.getElem_mem h)
    have hbl : (bk c k).length = 64 := bk_len (n := 8) (by omega) D.hc
    rw [hc1 k (by omega)]
    have he := hsh k h
    by_cases hw : 0 < (wl ws k).length
    · rw [if_pos hw]
      unfold Pre.crBlk
      by_cases hn : 0 < Pre.keepN ks k ((wl ws k).length / 64)
      · rw [if_pos hn]
        have hle := Pre.keepN_le ks k ((wl ws k).length / 64)
        refine ⟨Pre.keepN ks k ((wl ws k).length / 64), by rw [he, List.length_append, hbl]; omega, ?_⟩
        rw [he]
        obtain ⟨i, hi⟩ : ∃ i, Pre.keepN ks k ((wl ws k).length / 64) = i + 1 := ⟨Pre.keepN ks k ((wl ws k).length / 64) - 1, by omega⟩
        rw [hi, bk_app hbl]
        rfl
      · rw [if_neg hn]
        exact ⟨0, by omega, by rw [he, bk_app0 hbl]⟩
    · rw [if_neg hw]
      exact ⟨0, by omega, by rw [he, bk_app0 hbl]⟩
  unfold X_l04_DiskFlushed_2_0
  have stq := (cc)
  repeat first
    | ((with_reducible apply ends_bind); case h => first | (simp only [stp, stq]; first | done | rfl) | rfl)
    | ((with_reducible apply ends_t); case h => first | rfl | (simp only [stp, stq]; done))
    | ((with_reducible apply ends_f); case h => first | rfl | (simp only [stp, stq]; done))
  refine ends_loop (n := 999) (fun r t => ∃ (k : Nat) (by_ : Bx) (x75 x14 x55 x11 x53 x34 x9 x22 x6 x0 x1 x2 : AV), t = ⟨[(16, .v (.int .i64 k)), (75, x75), (14, x14), (55, x55), (11, x11), (53, x53), (10, .bp g 0), (34, x34), (9, x9), (7, .bp d 0), (22, x22), (6, x6), (0, x0), (1, x1), (2, x2)], by_⟩ ∧ k + r = 8 ∧ DB O by_ d s 8 m cl nilP z c1 [] [] ∧ Shn O by_ g sh ∧ (∀ j, O j → j < by_.length)) 8 (by omega) ⟨0, bx1, _, _, _, _, _, _, _, _, _, _, _, _, rfl, rfl, D1, S1, hO1⟩ ?_
  clear cc e1 D1 S1 f1 l1 hO1
  rintro r0 t ⟨k, by_, x75, x14, x55, x11, x53, x34, x9, x22, x6, x0, x1, x2, rfl, hkr, D1, S1, hO1⟩
  refine L_l04_DiskFlushed_3_lit ?_
  unfold B_l04_DiskFlushed_3
  by_cases hk8 : k < 8
  · have g1 : decide ((k : Int) < 8) = true := decide_eq_true (by omega)
    have hks : k < sh.length := by omega
    obtain ⟨t, er, gt⟩ := read_cl 998 D1 k hk8
    have cr : callA E9 md_l04_DiskFlushed by_ 11 [.bp d 0, .v (.int .i64 k)] = some (.tup [.agg (u8l (bk c1 k)), .v (.int .i64 0)], by_ ++ t) := by rw [Pr0.call_k rfl]; exact er
    have hbl : (bk c1 k).length = 64 := bk_len (n := 8) hk8 D1.hc
    obtain ⟨y1, hy1⟩ : ∃ y, y = by_ ++ t := ⟨_, rfl⟩
    rw [← hy1] at cr
    have D2 : DB O y1 d s 8 m cl nilP z c1 [] [] := by rw [hy1]; exact D1.app t
    have S2 : Shn O y1 g sh := by rw [hy1]; exact S1.app hO1 t
    have hO2 : ∀ j, O j → j < y1.length := fun j hj => by have := hO1 j hj; rw [hy1]; simp; omega
    have al := al_a hB (P := Try.prog) y1
    have stz : stA Try.prog 32 (y1 ++ [u8l (List.replicate 64 0)]) (.bp y1.length 0) (.agg (u8l (bk c1 k))) = some (.v undef, y1 ++ [u8l (bk c1 k)]) := by
      have := st_a hB (bx := y1 ++ [u8l (List.replicate 64 0)]) (k := y1.length) (b := List.replicate 64 0) (c := bk c1 k) (by simp) (by simp) hbl
      rw [this]
      simp
    obtain ⟨y2, hy2⟩ : ∃ y, y = y1 ++ [u8l (bk c1 k)] := ⟨_, rfl⟩
    rw [← hy2] at stz
    have D3 : DB O y2 d s 8 m cl nilP z c1 [] [] := by rw [hy2]; exact D2.app _
    have S3 : Shn O y2 g sh := by rw [hy2]; exact S2.app hO2 _
    have hO3 : ∀ j, O j → j < y2.length := fun j hj => by have := hO2 j hj; rw [hy2]; simp; omega
    have hT : y2[y1.length]? = some (u8l (bk c1 k)) := by rw [hy2]; simp
    have lT : loadA Try.prog 32 y2 (.bp y1.length 0) = some (.agg (u8l (bk c1 k))) := ld_a hB hT hbl
    have stq := (And.intro (g1) (And.intro (cr) (And.intro (al) (stz))))
    repeat first
      | ((with_reducible apply ends_bind); case h => first | (simp only [stp, stq]; first | done | rfl) | rfl)
      | ((with_reducible apply ends_t); case h => first | rfl | (simp only [stp, stq]; done))
      | ((with_reducible apply ends_f); case h => first | rfl | (simp only [stp, stq]; done))
    obtain ⟨idx, hidx, hfi⟩ := hfound k hks
    obtain ⟨q1, q2, q3, q4, q5, q6⟩ := S3.hq _ (List.getElem_mem hks)
    refine ends_loop (n := 999) (fun r t => ∃ (i : Nat) (fd : Bool) (x75 x14 x55 x11 x53 x34 x9 x22 x6 x0 x1 x2 x108 : AV), t = ⟨[(20, .v (.int .i64 i)), (19, .v (.bool fd)), (18, .v (.int .i64 0)), (17, .bp y1.length 0), (108, x108), (16, .v (.int .i64 k)), (75, x75), (14, x14), (55, x55), (11, x11), (53, x53), (10, .bp g 0), (34, x34), (9, x9), (7, .bp d 0), (22, x22), (6, x6), (0, x0), (1, x1), (2, x2)], y2⟩ ∧ i + r = (sh[k]).2.length / 64 ∧ (idx < i → fd = true)) ((sh[k]).2.length / 64) ?_ ⟨0, false, _, _, _, _, _, _, _, _, _, _, _, _, _, rfl, by omega, fun h => by omega⟩ ?_
    · have := q4; omega
    rintro r t ⟨i, fd, x75, x14, x55, x11, x53, x34, x9, x22, x6, x0, x1, x2, x108, rfl, hir, hfd⟩
    refine L_l04_DiskFlushed_4_lit ?_
    unfold B_l04_DiskFlushed_4
    have ixg := ix_sh g k hk8
    have ldg := ld_sh S3.hg (shC_get hks)
    rw [gv] at ldg
    have ln := ln_gs (sh[k]).1 ((sh[k]).2.length / 64) 64
    by_cases hi : i < (sh[k]).2.length / 64
    · have g2 : decide ((i : Int) < (((sh[k]).2.length / 64 : Nat) : Int)) = true := decide_eq_true (by omega)
      have ixb := ix_gs (sh[k]).1 ((sh[k]).2.length / 64) i .i64 hi
      have ldb := ld_gs (j := i) (k := (sh[k]).2.length / 64) q1 (by omega) hi
      have hbi : (bk (sh[k]).2 i).length = 64 := bk_len (n := (sh[k]).2.length / 64) hi (by omega)
      have eb := (eq_a hB (P := Try.prog) hbi hbl).1
      have e3 : IntKind.i64.wrap ((i : Int) + 1) = ((i + 1 : Nat) : Int) := by rw [wrap64]; omega
      cases fd with
      | true =>
        have stq := (And.intro (ixg) (And.intro (ldg) (And.intro (ln) (And.intro (g2) (e3)))))
        repeat first
          | ((with_reducible apply ends_bind); case h => first | (simp only [stp, stq]; first | done | rfl) | rfl)
          | ((with_reducible apply ends_t); case h => first | rfl | (simp only [stp, stq]; done))
          | ((with_reducible apply ends_f); case h => first | rfl | (simp only [stp, stq]; done))
        exact ends_some (.inl ⟨rfl, r - 1, by omega, i + 1, true, _, _, _, _, _, _, _, _, _, _, _, _, _, by first | rfl | (rw [← e3]; rfl), by omega, fun _ => rfl⟩)
      | false =>
        have stq := (And.intro (ixg) (And.intro (ldg) (And.intro (ln) (And.intro (g2) (And.intro (ixb) (And.intro (ldb) (And.intro (lT) (And.intro (eb) (e3)))))))))
        repeat first
          | ((with_reducible apply ends_bind); case h => first | (simp only [stp, stq]; first | done | rfl) | rfl)
          | ((with_reducible apply ends_t); case h => first | rfl | (simp only [stp, stq]; done))
          | ((with_reducible apply ends_f); case h => first | rfl | (simp only [stp, stq]; done))
        refine ends_some (.inl ⟨rfl, r - 1, by omega, i + 1, (bk (sh[k]).2 i == bk c1 k), _, _, _, _, _, _, _, _, _, _, _, _, _, by first | rfl | (rw [← e3]; rfl), by omega, fun h => ?_⟩)
        by_cases hii : idx = i
        · subst hii; simp [hfi]
        · have := hfd (by omega); simp at this
    · have g2 : decide ((i : Int) < (((sh[k]).2.length / 64 : Nat) : Int)) = false := decide_eq_false (by omega)
      have hft : fd = true := hfd (by omega)
      subst hft
      have stq := (And.intro (ixg) (And.intro (ldg) (And.intro (ln) (g2))))
      repeat first
        | ((with_reducible apply ends_bind); case h => first | (simp only [stp, stq]; first | done | rfl) | rfl)
        | ((with_reducible apply ends_t); case h => first | rfl | (simp only [stp, stq]; done))
        | ((with_reducible apply ends_f); case h => first | rfl | (simp only [stp, stq]; done))
      refine ends_some (.inr (.inl ⟨8, rfl, X_l04_DiskFlushed_4_0_lit ?_⟩))
      have ew := waits_cl 998 D3 k hk8
      rw [show wl [] k = [] from rfl, show (([] : List UInt8).length / 64 : Nat) = 0 from rfl] at ew
      have cw : callA E9 md_l04_DiskFlushed y2 13 [.bp d 0, .v (.int .i64 k)] = some (.v (.int .i64 0), y2) := by rw [Pr0.call_k rfl]; exact ew
      have z0 : ((0 : Int) != 0) = false := rfl
      have e4 : IntKind.i64.wrap ((k : Int) + 1) = ((k + 1 : Nat) : Int) := by rw [wrap64]; omega
      unfold X_l04_DiskFlushed_4_0
      have stq := (And.intro (z0) (And.intro (cw) (e4)))
      repeat first
        | ((with_reducible apply ends_bind); case h => first | (simp only [stp, stq]; first | done | rfl) | rfl)
        | ((with_reducible apply ends_t); case h => first | rfl | (simp only [stp, stq]; done))
        | ((with_reducible apply ends_f); case h => first | rfl | (simp only [stp, stq]; done))
      exact ends_some (.inl ⟨rfl, r0 - 1, by omega, k + 1, y2, _, _, _, _, _, _, _, _, _, _, _, _, by first | rfl | (rw [← e4]; rfl), by omega, D3, S3, hO3⟩)
  · have g1 : decide ((k : Int) < 8) = false := decide_eq_false (by omega)
    have stq := (g1)
    repeat first
      | ((with_reducible apply ends_bind); case h => first | (simp only [stp, stq]; first | done | rfl) | rfl)
      | ((with_reducible apply ends_t); case h => first | rfl | (simp only [stp, stq]; done))
      | ((with_reducible apply ends_f); case h => first | rfl | (simp only [stp, stq]; done))
    refine ends_some (.inr (.inl ⟨6, rfl, X_l04_DiskFlushed_3_0_lit ?_⟩))
    unfold X_l04_DiskFlushed_3_0
    exact ends_some ⟨.inl rfl, _, rfl, rfl⟩
end Go.Sy

namespace Go.Sy
open Go.Proofs
open Go.Sy.Pr0 (Wt Ws wEs DB DQ dbA dbA_of dbA_inv shw wl nilP)

/-- a list of what was shown grows -/
theorem Shn.grow {O : Nat → Prop} {bx : Bx} {g : Nat} {sh : List Sq} (h : Shn O bx g sh) {k : Nat} (hk : k < sh.length) {b : List UInt8} (hb : b.length = 64) (hbig : (sh[k]).2.length + 64 ≤ 64 * 100) :
    Shn O ((bx.set (sh[k]).1 (u8l ((sh[k]).2 ++ b))).set g (shC (sh.set k ((sh[k]).1, (sh[k]).2 ++ b)))) g (sh.set k ((sh[k]).1, (sh[k]).2 ++ b)) := by
  have lt : ∀ {i : Nat} {l : List AV}, bx[i]? = some l → i < bx.length := fun h => (List.getElem?_eq_some_iff.1 h).1
  obtain ⟨q1, q2, q3, q4, q5, q6⟩ := h.hq _ (List.getElem_mem hk)
  refine ⟨by rw [List.getElem?_set_self (by rw [List.length_set]; exact lt h.hg)], by rw [List.length_set]; exact h.hl, fun q hq => ?_, ?_, h.og⟩
  · obtain ⟨j, hj⟩ := List.getElem?_of_mem hq
    by_cases e : j = k
    · subst e
      rw [List.getElem?_set_self hk] at hj
      simp only [Option.some.injEq] at hj
      subst hj
      refine ⟨?_, by simp only [List.length_append]; omega, by simp only [List.length_append]; omega, by simp only [List.length_append]; omega, q5, q6⟩
      rw [List.getElem?_set_ne (Ne.symm q6), List.getElem?_set_self (lt q1)]
    · rw [List.getElem?_set_ne (Ne.symm e)] at hj
      obtain ⟨u1, u2, u3, u4, u5, u6⟩ := h.hq q (List.mem_of_getElem? hj)
      refine ⟨?_, u2, u3, u4, u5, u6⟩
      have hne : q.1 ≠ (sh[k]).1 := by
        intro ee
        have hjlt := (List.getElem?_eq_some_iff.1 hj).1
        exact e ((List.getElem?_inj (by simpa using hjlt) h.nd).1 (by rw [List.getElem?_map, List.getElem?_map, hj, List.getElem?_eq_getElem hk]; simp [ee]))
      rw [List.getElem?_set_ne (Ne.symm u6), List.getElem?_set_ne (Ne.symm hne)]
      exact u1
  · have : (sh.set k ((sh[k]).1, (sh[k]).2 ++ b)).map (·.1) = sh.map (·.1) := by
      rw [List.map_set]
      refine List.set_getElem?_self' ?_
      rw [List.getElem?_map, List.getElem?_eq_getElem hk]
      rfl
    rw [this]
    exact h.nd
theorem stage2 {O : Nat → Prop} {bx : Bx} {d s m cl g : Nat} {z : Int} {c : List UInt8} {sh : List Sq} {ks : List Int} (D : DB O bx d s 8 m cl nilP z c [] []) (hO : ∀ j, O j → j < bx.length) (S : Shn O bx g sh) (h8 : sh.length = 8)
    (hsh : ∀ k (h : k < sh.length), (sh[k]).2 = bk c k) {x1 x2 : AV} {L1 : List (Int × List UInt8)} (A1 : Acts x1 L1) (hk : ∀ bx s, keepA bx s x2 = some ks) (x55 x11 x53 x34 x9 x22 x6 x0 : AV) :
    Ends (X_l04_DiskFlushed_1_0 E9 999 0 x55 x11 x53 (.bp g 0) x34 x9 (.bp d 0) x22 x6 x0 x1 x2 bx) QT := by
  unfold X_l04_DiskFlushed_1_0
  refine ends_loop (n := 999) (fun r t => ∃ (i : Nat) (y : Bx) (O : Nat → Prop) (cl : Nat) (z : Int) (bs : List Nat) (ws : Ws) (sh : List Sq) (x55 x11 x53 x34 x9 x22 x6 x0 : AV), t = ⟨[(14, .v (.int .i64 i)), (55, x55), (11, x11), (53, x53), (10, .bp g 0), (34, x34), (9, x9), (7, .bp d 0), (22, x22), (6, x6), (0, x0), (1, x1), (2, x2)], y⟩ ∧
      i + r = 40 ∧ DB O y d s 8 m cl nilP z c bs ws ∧ (∀ j, O j → j < y.length) ∧ Shn O y g sh ∧ sh.length = 8 ∧ (∀ k (h : k < sh.length), (sh[k]).2 = bk c k ++ wl ws k) ∧ (∀ j, (wl ws j).length ≤ 64 * i)) 40 (by omega)
    ⟨0, bx, O, cl, z, [], [], sh, _, _, _, _, _, _, _, _, rfl, by omega, D, hO, S, h8, fun k h => by rw [hsh k h, show wl [] k = [] from rfl, List.append_nil], fun j => by rw [show wl [] j = [] from rfl]; simp⟩ ?_
  clear D hO S h8 hsh
  rintro r t ⟨i, y, O, cl, z, bs, ws, sh, x55, x11, x53, x34, x9, x22, x6, x0, rfl, hir, D, hO, S, h8, hsh, hw⟩
  refine L_l04_DiskFlushed_2_lit ?_
  unfold B_l04_DiskFlushed_2
  have ln := A1.ln
  by_cases hi : i < L1.length
  · have g1 : decide ((i : Int) < (L1.length : Int)) = true := decide_eq_true (by omega)
    by_cases hi4 : i < 40
    · have g2 : decide ((i : Int) < 40) = true := decide_eq_true (by omega)
      obtain ⟨a, a1, a2, ix, fa1, fa2, la, lb, hbl⟩ := A1.ix i hi
      generalize L1[i] = act at *
      obtain ⟨at_, b⟩ := act
      simp only at la lb hbl
      obtain ⟨k, hk8, ham⟩ := among_ev 998 at_ 8 (by omega) (by omega)
      have ca : ∀ y, callA E9 md_l04_DiskFlushed y 9 [.v (.int .i64 at_), .v (.int .i64 8)] = some (.v (.int .i64 k), y) := by
        intro y
        rw [callA_frozen rfl]
        show (cf E9 9 [.v (.int .i64 at_), .v (.int .i64 8)]).map _ = _
        rw [show cf E9 9 [.v (.int .i64 at_), .v (.int .i64 8)] = some (.v (.int .i64 k)) from ham]
        rfl
      obtain ⟨y1, O', cl', bs', ws', ew, D', hwl, _, hO1, hO2, fr, hlen, _⟩ := write_cl 998 D hO hk8 hbl (by have := hw k; omega)
      have cw : callA E9 md_l04_DiskFlushed y 8 [.bp d 0, .v (.int .i64 k), .agg (u8l b)] = some (.v (.int .i64 0), y1) := by rw [Pr0.call_k rfl]; exact ew
      have S1 : Shn O' y1 g sh := S.frame fr hO1
      have hks : k < sh.length := by omega
      have ixg := ix_sh g k hk8
      have ldg := ld_sh S1.hg (shC_get hks)
      obtain ⟨q1, q2, q3, q4, q5, q6⟩ := S1.hq _ (List.getElem_mem hks)
      have hshk : (sh[k]).2.length ≤ 64 + 64 * i := by
        rw [hsh k hks, List.length_append, bk_len (n := 8) hk8 D.hc]
        have := hw k
        omega
      have hgl : g < y1.length := (List.getElem?_eq_some_iff.1 S1.hg).1
      have ap1 : apartV (.bp y1.length 0) (.bp g k) = true := by simp [apartV]; omega
      have mk := mk_g1 y1 hbl
      obtain ⟨y2, hy2⟩ : ∃ x, x = y1 ++ [u8l b] := ⟨_, rfl⟩
      rw [← hy2] at mk
      have S2 : Shn O' y2 g sh := by rw [hy2]; exact S1.app hO2 _
      have p1 : y2[(sh[k]).1]? = some (u8l (sh[k]).2) := (S2.hq _ (List.getElem_mem hks)).1
      have ap := ap_gg (n0 := 0) p1 q2 (by omega) (by rw [hy2]; simp : y2[y1.length]? = some (u8l b)) hbl
      have hgv : gv sh[k] = .gs (sh[k]).1 ((sh[k]).2.length / 64) 64 := rfl
      rw [hgv] at ldg
      have fre : ∀ v, freeA (.gs (sh[k]).1 ((sh[k]).2.length / 64) 64) v = true := fun v => rfl
      obtain ⟨y3, hy3⟩ : ∃ x, x = y2.set (sh[k]).1 (u8l ((sh[k]).2 ++ b)) := ⟨_, rfl⟩
      rw [← hy3] at ap
      have hg3 : y3[g]? = some (shC sh) := by rw [hy3, List.getElem?_set_ne q6]; exact S2.hg
      have stg := st_sh hg3 (k := k) (by rw [shC_len S.hl]; exact hk8) ((sh[k]).1, (sh[k]).2 ++ b)
      rw [shC_set hks] at stg
      have S4 := S2.grow hks hbl (by omega)
      rw [← hy3] at S4
      obtain ⟨y4, hy4⟩ : ∃ x, x = y3.set g (shC (sh.set k ((sh[k]).1, (sh[k]).2 ++ b))) := ⟨_, rfl⟩
      rw [← hy4] at stg S4
      have e3 : IntKind.i64.wrap ((i : Int) + 1) = ((i + 1 : Nat) : Int) := by rw [wrap64]; omega
      have D4 : DB O' y4 d s 8 m cl' nilP (IntKind.i64.wrap (z + 1)) c bs' ws' := D'.frame fun j hj hl => by
        have n1 : g ≠ j := fun e => by subst e; exact S1.og hj
        have n2 : (sh[k]).1 ≠ j := fun e => by rw [e] at q5; exact q5 hj
        rw [hy4, List.getElem?_set_ne n1, hy3, List.getElem?_set_ne n2, hy2, List.getElem?_append_left hl]
      have hO4 : ∀ j, O' j → j < y4.length := fun j hj => by have := hO2 j hj; rw [hy4, hy3, hy2]; simp; omega
      generalize gv ((sh[k]).1, (sh[k]).2 ++ b) = X at *
      have stq := (And.intro (ln) (And.intro (g1) (And.intro (g2) (And.intro (ix) (And.intro (fa1) (And.intro (fa2) (And.intro (la) (And.intro (lb) (And.intro (ca) (And.intro (cw) (And.intro (ixg) (And.intro (ldg) (And.intro (ap1) (And.intro (mk) (And.intro (ap) (And.intro (fre) (And.intro (stg) (e3))))))))))))))))))
      repeat first
        | ((with_reducible apply ends_bind); case h => first | (simp only [stp, stq]; first | done | rfl) | rfl)
        | ((with_reducible apply ends_t); case h => first | rfl | (simp only [stp, stq]; done))
        | ((with_reducible apply ends_f); case h => first | rfl | (simp only [stp, stq]; done))
      refine ends_some (.inl ⟨rfl, r - 1, by omega, i + 1, y4, O', cl', _, bs', ws', sh.set k ((sh[k]).1, (sh[k]).2 ++ b), _, _, _, _, _, _, _, _, by first | rfl | (rw [← e3]; rfl), by omega, D4, hO4, S4, by rw [List.length_set]; exact h8, fun j hj => ?_, fun j => ?_⟩)
      · have hj' : j < sh.length := by rw [List.length_set] at hj; exact hj
        rw [hwl]
        by_cases e : j = k
        · subst e
          rw [List.getElem_set_self, if_pos rfl]
          simp only
          rw [hsh j hj', List.append_assoc]
        · rw [List.getElem_set_ne (Ne.symm e), if_neg e]
          exact hsh j hj'
      · rw [hwl]
        split
        · rw [List.length_append, hbl]
          have := hw k
          omega
        · have := hw j
          omega
    · have g2 : decide ((i : Int) < 40) = false := decide_eq_false (by omega)
      have stq := (And.intro (ln) (And.intro (g1) (g2)))
      repeat first
        | ((with_reducible apply ends_bind); case h => first | (simp only [stp, stq]; first | done | rfl) | rfl)
        | ((with_reducible apply ends_t); case h => first | rfl | (simp only [stp, stq]; done))
        | ((with_reducible apply ends_f); case h => first | rfl | (simp only [stp, stq]; done))
      exact ends_some (.inr (.inl ⟨4, rfl, X_l04_DiskFlushed_2_0_lit (stage3 D hO S h8 hsh hk _ _ _ _ _ _ _ _ _ _ _)⟩))
  · have g1 : decide ((i : Int) < (L1.length : Int)) = false := decide_eq_false (by omega)
    have stq := (And.intro (ln) (g1))
    repeat first
      | ((with_reducible apply ends_bind); case h => first | (simp only [stp, stq]; first | done | rfl) | rfl)
      | ((with_reducible apply ends_t); case h => first | rfl | (simp only [stp, stq]; done))
      | ((with_reducible apply ends_f); case h => first | rfl | (simp only [stp, stq]; done))
    exact ends_some (.inr (.inl ⟨4, rfl, X_l04_DiskFlushed_2_0_lit (stage3 D hO S h8 hsh hk _ _ _ _ _ _ _ _ _ _ _)⟩))
end Go.Sy

namespace Go.Sy
open Go.Proofs
open Go.Sy.Pr0 (Wt Ws wEs DB DQ dbA dbA_of dbA_inv shw wl nilP)

theorem b36 : buildA Try.prog 36 [] = some (.agg (shC [])) := by kernel_rfl
theorem al36 (bx : Bx) : allocA Try.prog bx 36 = some (.bp bx.length 0, bx ++ [shC []]) := by
  have h : zcA Try.prog 36 = some (shC []) := by kernel_rfl
  unfold allocA
  rw [h]
  rfl
theorem st36 {bx : Bx} {g : Nat} (h : bx[g]? = some (shC [])) : stA Try.prog 36 bx (.bp g 0) (.agg (shC [])) = some (.v undef, bx) := by
  have h1 : szA Try.prog 36 = some 8 := by kernel_rfl
  unfold stA storeA
  simp only [h1, h, Option.bind_some]
  rw [if_pos ⟨rfl, rfl, by rw [shC_len (by simp)]; omega⟩]
  have : storeL (shC []) 0 (AV.agg (shC [])).cells = shC [] := by kernel_rfl
  rw [this, List.set_getElem?_self' h]
  rfl
theorem Shn.more {O : Nat → Prop} {bx : Bx} {g : Nat} {sh : List Sq} (h : Shn O bx g sh) (hO : ∀ j, O j → j < bx.length) (h8 : sh.length < 8) {b : List UInt8} (hb : b.length = 64) :
    Shn O ((bx ++ [u8l b]).set g (shC (sh ++ [(bx.length, b)]))) g (sh ++ [(bx.length, b)]) := by
  have lt : ∀ {i : Nat} {l : List AV}, bx[i]? = some l → i < bx.length := fun h => (List.getElem?_eq_some_iff.1 h).1
  have hg := lt h.hg
  refine ⟨by rw [List.getElem?_set_self (by rw [List.length_append]; omega)], by simp; omega, fun q hq => ?_, ?_, h.og⟩
  · rcases List.mem_append.1 hq with hq | hq
    · obtain ⟨q1, q2, q3, q4, q5, q6⟩ := h.hq q hq
      exact ⟨by rw [List.getElem?_set_ne (Ne.symm q6), List.getElem?_append_left (lt q1)]; exact q1, q2, q3, q4, q5, q6⟩
    · simp only [List.mem_singleton] at hq
      subst hq
      refine ⟨?_, by simp [hb], by simp [hb], by simp [hb], fun ho => by have := hO _ ho; simp at this, by simp; omega⟩
      rw [List.getElem?_set_ne (by simp; omega)]
      simp
  · rw [List.map_append, List.nodup_append]
    refine ⟨h.nd, by simp, fun x hx y hy => ?_⟩
    simp at hy
    obtain ⟨q, hq, rfl⟩ := List.mem_map.1 hx
    have := lt (h.hq q hq).1
    omega
theorem stage1 {O : Nat → Prop} {bx : Bx} {d s m cl : Nat} {z : Int} {c : List UInt8} {bs : List Nat} {ws : Ws} {ks : List Int} (D : DB O bx d s 8 m cl nilP z c bs ws) (hO : ∀ j, O j → j < bx.length) (hg : Pr0.Good bx)
    {x1 x2 : AV} {L1 : List (Int × List UInt8)} (A1 : Acts x1 L1) (hk : ∀ bx s, keepA bx s x2 = some ks) (x34 x9 x22 x6 x0 : AV) :
    Ends (X_l04_DiskFlushed_0_0 E9 999 0 x34 x9 (.bp d 0) x22 x6 x0 x1 x2 bx) QT := by
  have al := al36 bx
  obtain ⟨y, hy⟩ : ∃ x, x = bx ++ [shC []] := ⟨_, rfl⟩
  rw [← hy] at al
  have hyg : y[bx.length]? = some (shC []) := by rw [hy]; simp
  have st := st36 hyg
  have Dy : DB O y d s 8 m cl nilP z c bs ws := by rw [hy]; exact D.app _
  have gy : Pr0.Good y := by rw [hy]; exact hg.app fun l hl => by simp at hl; subst hl; exact eqCs_shC []
  obtain ⟨y1, c1, ef, D1, hc1, f1, l1, _⟩ := flush_cl 998 Dy (by omega) gy
  have cf' : callA E9 md_l04_DiskFlushed y 10 [.bp d 0] = some (.v (.int .i64 0), y1) := by rw [Pr0.call_k rfl]; exact ef
  have hOg : ¬ O bx.length := fun h => by have := hO _ h; omega
  have S1 : Shn O y1 bx.length [] := ⟨by rw [f1 _ hOg]; exact hyg, by simp, by simp, .nil, hOg⟩
  have hO1 : ∀ j, O j → j < y1.length := fun j hj => by have := hO j hj; rw [l1, hy]; simp; omega
  have z0 : ((0 : Int) != 0) = false := rfl
  unfold X_l04_DiskFlushed_0_0
  have b36 := b36
  have stq := (And.intro (b36) (And.intro (al) (And.intro (st) (And.intro (cf') (z0)))))
  repeat first
    | ((with_reducible apply ends_bind); case h => first | (simp only [stp, stq]; first | done | rfl) | rfl)
    | ((with_reducible apply ends_t); case h => first | rfl | (simp only [stp, stq]; done))
    | ((with_reducible apply ends_f); case h => first | rfl | (simp only [stp, stq]; done))
  generalize bx.length = g at *
  refine ends_loop (n := 999) (fun r t => ∃ (i : Nat) (y : Bx) (sh : List Sq) (x53 x34 x9 x22 x6 x0 : AV), t = ⟨[(11, .v (.int .i64 i)), (53, x53), (10, .bp g 0), (34, x34), (9, x9), (7, .bp d 0), (22, x22), (6, x6), (0, x0), (1, x1), (2, x2)], y⟩ ∧
      i + r = 8 ∧ DB O y d s 8 m cl nilP z c1 [] [] ∧ (∀ j, O j → j < y.length) ∧ Shn O y g sh ∧ sh.length = i ∧ (∀ k (h : k < sh.length), (sh[k]).2 = bk c1 k)) 8 (by omega)
    ⟨0, y1, [], _, _, _, _, _, _, rfl, by omega, D1, hO1, S1, rfl, fun k h => by simp at h⟩ ?_
  clear D1 hO1 S1 cf' ef f1 l1 hyg st al gy Dy hy
  rintro r t ⟨i, y, sh, x53, x34, x9, x22, x6, x0, rfl, hir, D1, hO1, S1, hl, hsh⟩
  refine L_l04_DiskFlushed_1_lit ?_
  unfold B_l04_DiskFlushed_1
  by_cases hi : i < 8
  · have g1 : decide ((i : Int) < 8) = true := decide_eq_true (by omega)
    obtain ⟨t, er, gt⟩ := read_cl 998 D1 i hi
    have cr : callA E9 md_l04_DiskFlushed y 11 [.bp d 0, .v (.int .i64 i)] = some (.tup [.agg (u8l (bk c1 i)), .v (.int .i64 0)], y ++ t) := by rw [Pr0.call_k rfl]; exact er
    have hbl : (bk c1 i).length = 64 := bk_len (n := 8) hi D1.hc
    obtain ⟨y1, hy1⟩ : ∃ x, x = y ++ t := ⟨_, rfl⟩
    rw [← hy1] at cr
    have D2 : DB O y1 d s 8 m cl nilP z c1 [] [] := by rw [hy1]; exact D1.app t
    have S2 : Shn O y1 g sh := by rw [hy1]; exact S1.app hO1 t
    have hO2 : ∀ j, O j → j < y1.length := fun j hj => by have := hO1 j hj; rw [hy1]; simp; omega
    have al := al_a hB (P := Try.prog) y1
    have stz : stA Try.prog 32 (y1 ++ [u8l (List.replicate 64 0)]) (.bp y1.length 0) (.agg (u8l (bk c1 i))) = some (.v undef, y1 ++ [u8l (bk c1 i)]) := by
      have := st_a hB (bx := y1 ++ [u8l (List.replicate 64 0)]) (k := y1.length) (b := List.replicate 64 0) (c := bk c1 i) (by simp) (by simp) hbl
      rw [this]
      simp
    obtain ⟨y2, hy2⟩ : ∃ x, x = y1 ++ [u8l (bk c1 i)] := ⟨_, rfl⟩
    rw [← hy2] at stz
    have D3 : DB O y2 d s 8 m cl nilP z c1 [] [] := by rw [hy2]; exact D2.app _
    have S3 : Shn O y2 g sh := by rw [hy2]; exact S2.app hO2 _
    have hO3 : ∀ j, O j → j < y2.length := fun j hj => by have := hO2 j hj; rw [hy2]; simp; omega
    have lT : loadA Try.prog 32 y2 (.bp y1.length 0) = some (.agg (u8l (bk c1 i))) := ld_a hB (by rw [hy2]; simp) hbl
    have mk := mk_g1 y2 hbl
    obtain ⟨y3, hy3⟩ : ∃ x, x = y2 ++ [u8l (bk c1 i)] := ⟨_, rfl⟩
    rw [← hy3] at mk
    have ixg := ix_sh g i hi
    have hg3 : y3[g]? = some (shC sh) := by rw [hy3, List.getElem?_append_left (List.getElem?_eq_some_iff.1 S3.hg).1]; exact S3.hg
    have S4 := S3.more hO3 (by omega) hbl
    have stg := st_sh hg3 (k := i) (by rw [shC_len S1.hl]; exact hi) (y2.length, bk c1 i)
    have hset : (shC sh).set i (gv (y2.length, bk c1 i)) = shC (sh ++ [(y2.length, bk c1 i)]) := by rw [← hl]; exact shC_new (by omega) _
    rw [hset] at stg
    have hgv : gv (y2.length, bk c1 i) = .gs y2.length 1 64 := by simp [gv, hbl]
    rw [hgv] at stg
    rw [← hy3] at S4
    obtain ⟨y4, hy4⟩ : ∃ x, x = y3.set g (shC (sh ++ [(y2.length, bk c1 i)])) := ⟨_, rfl⟩
    rw [← hy4] at stg S4
    have D4 : DB O y4 d s 8 m cl nilP z c1 [] [] := D3.frame fun j hj hl => by
      have n1 : g ≠ j := fun e => by subst e; exact S3.og hj
      rw [hy4, List.getElem?_set_ne n1, hy3, List.getElem?_append_left hl]
    have hO4 : ∀ j, O j → j < y4.length := fun j hj => by have := hO3 j hj; rw [hy4, hy3]; simp; omega
    have e3 : IntKind.i64.wrap ((i : Int) + 1) = ((i + 1 : Nat) : Int) := by rw [wrap64]; omega
    have stq := (And.intro (g1) (And.intro (cr) (And.intro (al) (And.intro (stz) (And.intro (lT) (And.intro (mk) (And.intro (ixg) (And.intro (stg) (e3)))))))))
    repeat first
      | ((with_reducible apply ends_bind); case h => first | (simp only [stp, stq]; first | done | rfl) | rfl)
      | ((with_reducible apply ends_t); case h => first | rfl | (simp only [stp, stq]; done))
      | ((with_reducible apply ends_f); case h => first | rfl | (simp only [stp, stq]; done))
    refine ends_some (.inl ⟨rfl, r - 1, by omega, i + 1, y4, sh ++ [(y2.length, bk c1 i)], _, _, _, _, _, _, by first | rfl | (rw [← e3]; rfl), by omega, D4, hO4, S4, by simp [hl], fun k hk => ?_⟩)
    by_cases e : k < sh.length
    · rw [List.getElem_append_left e]
      exact hsh k e
    · have : k = sh.length := by simp at hk; omega
      subst this
      rw [List.getElem_append_right (Nat.le_refl _)]
      simp [hl]
  · have g1 : decide ((i : Int) < 8) = false := decide_eq_false (by omega)
    have stq := (g1)
    repeat first
      | ((with_reducible apply ends_bind); case h => first | (simp only [stp, stq]; first | done | rfl) | rfl)
      | ((with_reducible apply ends_t); case h => first | rfl | (simp only [stp, stq]; done))
      | ((with_reducible apply ends_f); case h => first | rfl | (simp only [stp, stq]; done))
    exact ends_some (.inr (.inl ⟨2, rfl, X_l04_DiskFlushed_1_0_lit (stage2 D1 hO1 S1 (by omega) hsh A1 hk _ _ _ _ _ _ _ _)⟩))
theorem flushed_ev {x0 x1 x2 : AV} {L0 L1 : List (Int × List UInt8)} {ks : List Int} (A0 : Acts x0 L0) (A1 : Acts x1 L1) (hk : ∀ bx s, keepA bx s x2 = some ks) : cf (evFn cx0 ext0 1000) 3 [x0, x1, x2] = some (.v (.bool true)) := by
  have cw : callA E9 md_l04_DiskFlushed [] 6 [] = some (.v (.bool true), []) := by kernel_rfl
  have cn : callA E9 md_l04_DiskFlushed [] 7 [.v (.int .i64 8), .v (.pointer none)] = some (.tup [.bp 2 0, .v (.int .i64 0)], [u8l (List.replicate 512 0), [stH 0 []], [nilP, .bsl 0 0 8 64, .mp 1, .v (.int .i64 0)]]) := by kernel_rfl
  unfold cf
  rw [E_l04_DiskFlushed]
  refine ends_cf (P := Try.prog) ?_
  unfold F_l04_DiskFlushed
  have stq := (And.intro (cw) (cn))
  repeat first
    | ((with_reducible apply ends_bind); case h => first | (simp only [stp, stq]; first | done | rfl) | rfl)
    | ((with_reducible apply ends_t); case h => first | rfl | (simp only [stp, stq]; done))
    | ((with_reducible apply ends_f); case h => first | rfl | (simp only [stp, stq]; done))
  have D0 : DB (fun j => j < 3) [u8l (List.replicate 512 0), [stH 0 []], [nilP, .bsl 0 0 8 64, .mp 1, .v (.int .i64 0)]] 2 0 8 1 0 nilP 0 (List.replicate 512 0) [] [] :=
    ⟨rfl, rfl, List.length_replicate .., rfl, fun b hb => (by cases hb), .nil, rfl, fun q hq => (by cases hq), .nil, .nil, ⟨by omega, by omega, by omega⟩, ⟨by omega, by omega, by omega⟩⟩
  have G0 : Pr0.Good [u8l (List.replicate 512 0), [stH 0 []], [nilP, .bsl 0 0 8 64, .mp 1, .v (.int .i64 0)]] := fun l hl => by
    simp only [List.mem_cons, List.not_mem_nil, or_false] at hl
    rcases hl with rfl | rfl | rfl
    · exact eqCs_u8l _
    · exact Pr0.eqCs_map 0 [] []
    · exact Pr0.eqCs_d rfl 0 8 1 0
  generalize hbx : ([u8l (List.replicate 512 0), [stH 0 []], [nilP, .bsl 0 0 8 64, .mp 1, .v (.int .i64 0)]] : Bx) = bx at *
  refine ends_loop (n := 999) (fun r t => ∃ (i : Nat) (y : Bx) (O : Nat → Prop) (cl : Nat) (z : Int) (c : List UInt8) (bs : List Nat) (ws : Ws) (x22 x6 : AV), t = ⟨[(9, .v (.int .i64 i)), (7, .bp 2 0), (22, x22), (6, x6), (0, x0), (1, x1), (2, x2)], y⟩ ∧
      i + r = 40 ∧ DB O y 2 0 8 1 cl nilP z c bs ws ∧ (∀ j, O j → j < y.length) ∧ Pr0.Good y ∧ (∀ j, (wl ws j).length ≤ 64 * i)) 40 (by omega)
    ⟨0, bx, _, 0, 0, _, [], [], _, _, rfl, by omega, D0, fun j hj => by rw [← hbx]; exact hj, G0, fun j => by rw [show wl [] j = [] from rfl]; simp⟩ ?_
  rintro r t ⟨i, y, O, cl, z, c, bs, ws, x22, x6, rfl, hir, D, hO, hg, hw⟩
  refine L_l04_DiskFlushed_0_lit ?_
  unfold B_l04_DiskFlushed_0
  have ln := A0.ln
  by_cases hi : i < L0.length
  · have g1 : decide ((i : Int) < (L0.length : Int)) = true := decide_eq_true (by omega)
    by_cases hi4 : i < 40
    · have g2 : decide ((i : Int) < 40) = true := decide_eq_true (by omega)
      obtain ⟨a, a1, a2, ix, fa1, fa2, la, lb, hbl⟩ := A0.ix i hi
      generalize L0[i] = act at *
      obtain ⟨at_, b⟩ := act
      simp only at la lb hbl
      obtain ⟨k, hk8, ham⟩ := among_ev 998 at_ 8 (by omega) (by omega)
      have ca : ∀ y, callA E9 md_l04_DiskFlushed y 9 [.v (.int .i64 at_), .v (.int .i64 8)] = some (.v (.int .i64 k), y) := by
        intro y
        rw [callA_frozen rfl]
        show (cf E9 9 [.v (.int .i64 at_), .v (.int .i64 8)]).map _ = _
        rw [show cf E9 9 [.v (.int .i64 at_), .v (.int .i64 8)] = some (.v (.int .i64 k)) from ham]
        rfl
      obtain ⟨y1, O', cl', bs', ws', ew, D', hwl, _, hO1, hO2, fr, hlen, hg'⟩ := write_cl 998 D hO hk8 hbl (by have := hw k; omega)
      have cw : callA E9 md_l04_DiskFlushed y 8 [.bp 2 0, .v (.int .i64 k), .agg (u8l b)] = some (.v (.int .i64 0), y1) := by rw [Pr0.call_k rfl]; exact ew
      have e3 : IntKind.i64.wrap ((i : Int) + 1) = ((i + 1 : Nat) : Int) := by rw [wrap64]; omega
      have stq := (And.intro (ln) (And.intro (g1) (And.intro (g2) (And.intro (ix) (And.intro (fa1) (And.intro (fa2) (And.intro (la) (And.intro (lb) (And.intro (ca) (And.intro (cw) (e3)))))))))))
      repeat first
        | ((with_reducible apply ends_bind); case h => first | (simp only [stp, stq]; first | done | rfl) | rfl)
        | ((with_reducible apply ends_t); case h => first | rfl | (simp only [stp, stq]; done))
        | ((with_reducible apply ends_f); case h => first | rfl | (simp only [stp, stq]; done))
      refine ends_some (.inl ⟨rfl, r - 1, by omega, i + 1, y1, O', cl', _, c, bs', ws', _, _, by first | rfl | (rw [← e3]; rfl), by omega, D', hO2, hg' hg, fun j => ?_⟩)
      rw [hwl]
      split
      · rw [List.length_append, hbl]
        have := hw k
        omega
      · have := hw j
        omega
    · have g2 : decide ((i : Int) < 40) = false := decide_eq_false (by omega)
      have stq := (And.intro (ln) (And.intro (g1) (g2)))
      repeat first
        | ((with_reducible apply ends_bind); case h => first | (simp only [stp, stq]; first | done | rfl) | rfl)
        | ((with_reducible apply ends_t); case h => first | rfl | (simp only [stp, stq]; done))
        | ((with_reducible apply ends_f); case h => first | rfl | (simp only [stp, stq]; done))
      exact ends_some (.inr (.inl ⟨0, rfl, X_l04_DiskFlushed_0_0_lit (stage1 D hO hg A1 hk _ _ _ _ _)⟩))
  · have g1 : decide ((i : Int) < (L0.length : Int)) = false := decide_eq_false (by omega)
    have stq := (And.intro (ln) (g1))
    repeat first
      | ((with_reducible apply ends_bind); case h => first | (simp only [stp, stq]; first | done | rfl) | rfl)
      | ((with_reducible apply ends_t); case h => first | rfl | (simp only [stp, stq]; done))
      | ((with_reducible apply ends_f); case h => first | rfl | (simp only [stp, stq]; done))
    exact ends_some (.inr (.inl ⟨0, rfl, X_l04_DiskFlushed_0_0_lit (stage1 D hO hg A1 hk _ _ _ _ _)⟩))
end Go.Sy

namespace Go.Sy
open Go.Proofs

def il (l : List Int) : List AV := l.map fun x => .v (.int .i64 x)
theorem il_len (l : List Int) : (il l).length = l.length := by simp [il]
theorem fit_ints {a : AV} (h : Fit (.sl [.int .i64]) a) : ∃ xs : List Int, xs.length ≤ maxLen ∧ a = .sl xs.length (il xs) true := by
  cases h with
  | sl row n l hn hl h =>
    simp only [List.length_cons, List.length_nil, Nat.zero_add, Nat.mul_one] at hl
    subst hl
    have : ∃ xs : List Int, l = il xs := by
      clear hn
      induction l with
      | nil => exact ⟨[], rfl⟩
      | cons x l ih =>
        obtain ⟨b, rfl⟩ := ih (fun i y c hy hc => h (i + 1) y c (by simpa using hy) (by simpa [Nat.mod_one] using hc))
        obtain ⟨v, rfl, _⟩ := fit_i64 (h 0 x (.int .i64) rfl (by simp))
        exact ⟨v :: b, rfl⟩
    obtain ⟨xs, rfl⟩ := this
    rw [il_len] at hn
    exact ⟨xs, hn, by rw [il_len]⟩
theorem keep_ints (xs : List Int) (f : Bool) (bx : Bx) (s : Nat) : keepA bx s (.sl xs.length (il xs) f) = some xs := by
  have h : intsA (il xs) = some xs := by
    induction xs with
    | nil => rfl
    | cons x xs ih =>
      show (intsA (il xs)).map (fun l => x :: l) = _
      rw [ih]
      rfl
  unfold keepA
  simp only [h, Option.bind_some, if_true]
/-- an act -/
structure Ac where
  dd : Int
  at_ : Int
  b : List UInt8
  ks : List Int
def ac (a : Ac) : List AV := .v (.int .i64 a.dd) :: .v (.int .i64 a.at_) :: (u8l a.b ++ [.sl a.ks.length (il a.ks) true])
def acs (L : List Ac) : List AV := L.flatMap ac
def asl (L : List Ac) : AV := .sl L.length (acs L) true
def arow : List Sh := .int .i64 :: .int .i64 :: ((List.replicate 64 [Sh.int .u8]).flatten ++ [.sl [.int .i64]])
theorem ac_len {a : Ac} (h : a.b.length = 64) : (ac a).length = 67 := by simp [ac, u8l_len, h]
theorem acs_drop : ∀ {L : List Ac}, (∀ a ∈ L, a.b.length = 64) → ∀ (i : Nat) (h : i < L.length), ∃ r, (acs L).drop (i * 67) = ac L[i] ++ r
  | a :: L, hL, 0, _ => ⟨acs L, rfl⟩
  | a :: L, hL, i + 1, h => by
    obtain ⟨r, hr⟩ := acs_drop (L := L) (fun x hx => hL x (List.mem_cons_of_mem _ hx)) i (by simpa using h)
    refine ⟨r, ?_⟩
    show (ac a ++ acs L).drop ((i + 1) * 67) = _
    rw [show (i + 1) * 67 = (ac a).length + i * 67 by rw [ac_len (hL a (by simp))]; omega, ← List.drop_drop, List.drop_left]
    exact hr
theorem acs_len {L : List Ac} (h : ∀ a ∈ L, a.b.length = 64) : (acs L).length = L.length * 67 := by
  induction L with
  | nil => rfl
  | cons a L ih =>
    show (ac a ++ acs L).length = _
    rw [List.length_append, ac_len (h a (by simp)), ih fun x hx => h x (by simp [hx]), List.length_cons]
    omega
theorem asl_acts {L : List Ac} (h : ∀ a ∈ L, a.b.length = 64) : Acts (asl L) (L.map fun a => (a.at_, a.b)) := by
  have t22 : isSl Try.prog 22 = true ∧ elA Try.prog 22 = some 34 ∧ szA Try.prog 34 = some 67 := ⟨by kernel_rfl, by kernel_rfl, by kernel_rfl⟩
  have f1 : fiA Try.prog 34 1 = some (1, 3) ∧ fiA Try.prog 34 2 = some (2, 32) := ⟨by kernel_rfl, by kernel_rfl⟩
  have s1 : szA Try.prog 3 = some 1 ∧ agA Try.prog 3 = some false ∧ szA Try.prog 32 = some 64 ∧ agA Try.prog 32 = some true := ⟨by kernel_rfl, by kernel_rfl, by kernel_rfl, by kernel_rfl⟩
  refine ⟨?_, fun i hi => ?_⟩
  · rw [List.length_map]
    have h0 : ∀ (n : Nat) (l : List AV), lenA Try.prog 22 (.sl n l true) = some (.v (.int .i64 n)) := by intro n l; kernel_rfl
    exact h0 _ _
  · rw [List.length_map] at hi
    rw [List.getElem_map]
    have hb := h _ (List.getElem_mem hi)
    obtain ⟨r, hr⟩ := acs_drop h i hi
    generalize L[i] = a at *
    refine ⟨.ip (ac a ++ r) true, .ip ((ac a ++ r).drop 1) true, .ip ((ac a ++ r).drop 2) true, ?_, ?_, ?_, fun bx => ?_, fun bx => ?_, hb⟩
    · unfold indexAddrA asl
      simp only [t22.1, if_true, t22.2.1, t22.2.2, Option.bind_some, idxI]
      rw [if_pos ⟨by omega, by omega⟩, Option.bind_some, if_pos (by rw [acs_len h]; exact Nat.le_refl _)]
      rw [show 0 + ((i : Int)).toNat * 67 = i * 67 by simp, hr]
    · unfold fieldAddrA
      simp only [f1.1, Option.bind_some, s1.1]
      rfl
    · unfold fieldAddrA
      simp only [f1.2, Option.bind_some, s1.2.2.1]
      rfl
    · unfold loadA partA
      simp only [s1.1, s1.2.1]
      rfl
    · unfold loadA partA
      simp only [s1.2.2.1, s1.2.2.2]
      have hd : (ac a ++ r).drop 2 = u8l a.b ++ ([.sl a.ks.length (il a.ks) true] ++ r) := by
        simp [ac]
      rw [hd, if_pos (by simp [u8l_len, hb]), List.drop_zero, List.take_left' (by rw [u8l_len, hb])]
theorem fit_ac {l : List AV} (h : ShFits arow l) : ∃ a : Ac, a.b.length = 64 ∧ l = ac a := by
  obtain ⟨h1, h2⟩ := h
  have hlen : l.length = 67 := h1
  obtain ⟨b, hb, eb⟩ := fits_bytes 64 (l := (l.drop 2).take 64) ⟨by rw [List.length_take, List.length_drop, hlen]; rfl, fun i x c hx hc => by
    have hi : i < 64 := (List.getElem?_eq_some_iff.1 hc).1
    rw [List.getElem?_take_of_lt hi, List.getElem?_drop] at hx
    refine h2 (2 + i) x c hx ?_
    show arow[2 + i]? = _
    rw [Nat.add_comm]
    show ((List.replicate 64 [Sh.int .u8]).flatten ++ [.sl [.int .i64]])[i]? = _
    rw [List.getElem?_append_left hi]
    exact hc⟩
  obtain ⟨x0, x1, l', rfl⟩ : ∃ x0 x1 l', l = x0 :: x1 :: l' := by
    match l, hlen with
    | x0 :: x1 :: l', _ => exact ⟨x0, x1, l', rfl⟩
  obtain ⟨v0, rfl, _⟩ := fit_i64 (h2 0 x0 (.int .i64) rfl rfl)
  obtain ⟨v1, rfl, _⟩ := fit_i64 (h2 1 x1 (.int .i64) rfl rfl)
  simp only [List.drop_succ_cons, List.drop_zero] at eb
  simp only [List.length_cons] at hlen
  obtain ⟨y, hy⟩ : ∃ y, l'.drop 64 = [y] := by
    have : (l'.drop 64).length = 1 := by rw [List.length_drop]; omega
    exact List.length_eq_one_iff.1 this
  have hy' : l'[64]? = some y := by
    have := congrArg (fun l => l[0]?) hy
    simpa using this
  obtain ⟨ks, _, rfl⟩ := fit_ints (h2 66 y (.sl [.int .i64]) (by simpa using hy') rfl)
  refine ⟨⟨v0, v1, b, ks⟩, hb, ?_⟩
  show _ :: _ :: l' = _ :: _ :: (u8l b ++ _)
  rw [← eb, ← hy, List.take_append_drop]
theorem fit_acs (n : Nat) (l : List AV) (hl : l.length = n * 67) (h : ∀ (i : Nat) (x : AV) (c : Sh), l[i]? = some x → arow[i % 67]? = some c → Fit c x) : ∃ L : List Ac, L.length = n ∧ (∀ a ∈ L, a.b.length = 64) ∧ l = acs L := by
  induction n generalizing l with
  | zero => exact ⟨[], rfl, by simp, List.length_eq_zero_iff.1 (by omega)⟩
  | succ n ih =>
    obtain ⟨p, hpb, hp⟩ := fit_ac (l := l.take 67) ⟨by rw [List.length_take, hl]; show min 67 _ = 67; omega, fun i x c hx hc => by
      have hi : i < 67 := (List.getElem?_eq_some_iff.1 hc).1
      rw [List.getElem?_take_of_lt hi] at hx
      exact h i x c hx (by rw [Nat.mod_eq_of_lt hi]; exact hc)⟩
    obtain ⟨L, hL, hLb, e⟩ := ih (l.drop 67) (by rw [List.length_drop, hl]; omega) (fun i x c hx hc => h (67 + i) x c (by rw [← List.getElem?_drop]; exact hx) (by rw [Nat.add_mod_left]; exact hc))
    refine ⟨p :: L, by rw [List.length_cons, hL], fun a ha => ?_, ?_⟩
    · rcases List.mem_cons.1 ha with rfl | ha
      · exact hpb
      · exact hLb a ha
    · show l = ac p ++ acs L
      rw [← hp, ← e, List.take_append_drop]
theorem fit_acts {a : AV} (h : Fit (.sl arow) a) : ∃ L : List Ac, (∀ a ∈ L, a.b.length = 64) ∧ a = asl L := by
  cases h with
  | sl row n l hn hl h =>
    obtain ⟨L, rfl, hb, rfl⟩ := fit_acs n l hl h
    exact ⟨L, hb, rfl⟩
theorem flushed_law {L0 L1 : List Ac} {ks : List Int} (h0 : ∀ a ∈ L0, a.b.length = 64) (h1 : ∀ a ∈ L1, a.b.length = 64) : cf (evFn cx0 ext0 1000) 3 [asl L0, asl L1, .sl ks.length (il ks) true] = some (.v (.bool true)) :=
  flushed_ev (asl_acts h0) (asl_acts h1) fun bx s => keep_ints ks true bx s
end Go.Sy
