/-
  Layer 04: the laws' calls of disk's functions, in the laws' own words.
-/
import Derived.Test.YtijmfjpcjceejaaFn
import Derived.Test.YtijmfjpcjceejaaPfCon3
namespace Go.Sy
open Go.Proofs
open Go.Sy.Pr0 (Wt Ws wEs DB DQ dbA dbA_of dbA_inv shw wl nilP)

theorem works_v : cf (evFn cx0 ext0 600) 6 [] = some (.v (.bool true)) := by kernel_rfl
theorem ev_extD {f : FuncId} {args : List AV} {bx : Bx} {r : AV × Bx} (k : Nat) (h : extD f args bx = some r) : evFn cx0 ext0 (k + 1) f args bx = some r := by
  show (match ext0 f args bx with | some r => some r | none => _) = _
  have : ext0 f args bx = some r := h
  rw [this]
theorem ev_dfn {f : FuncId} {args : List AV} {bx : Bx} {r : AV × Bx} (k : Nat) (h1 : f ≠ 12) (h2 : f ≠ 10) (h3 : f ≠ 26) (h4 : Pr0.dfn.contains f = true) (h : evFn Pr0.cx0 Pr0.ext0 1000 f args bx = some r) : evFn cx0 ext0 (k + 1) f args bx = some r := by
  refine ev_extD k ?_
  unfold extD Pr0.ext1
  rw [if_neg h1, if_neg h2, if_neg h3, if_pos h4]
  exact h
theorem write_cl (k : Nat) {O : Nat → Prop} {bx : Bx} {d s n m cl : Nat} {z : Int} {c : List UInt8} {bs : List Nat} {ws : Ws} (D : DB O bx d s n m cl nilP z c bs ws) (hO : ∀ j, O j → j < bx.length) {i : Nat} (hi : i < n) {b : List UInt8} (hb : b.length = 64)
    (hbig : (wl ws i).length < 2 ^ 31) :
    ∃ (bx' : Bx) (O' : Nat → Prop) (cl' : Nat) (bs' : List Nat) (ws' : Ws), evFn cx0 ext0 (k + 1) 8 [.bp d 0, .v (.int .i64 i), .agg (u8l b)] bx = some (.v (.int .i64 0), bx') ∧
      DB O' bx' d s n m cl' nilP (IntKind.i64.wrap (z + 1)) c bs' ws' ∧ (∀ j, wl ws' j = if j = i then wl ws i ++ b else wl ws j) ∧ (∀ j, O j → O' j) ∧ (∀ j, O' j → O j ∨ bx.length ≤ j) ∧ (∀ j, O' j → j < bx'.length) ∧
      (∀ j, j < bx.length → ¬ O j → bx'[j]? = bx[j]?) ∧ bx.length ≤ bx'.length ∧ (Pr0.Good bx → Pr0.Good bx') := by
  obtain ⟨bx', O', cl', bs', ws', h, h'⟩ := Pr0.write_nil 997 D hO hi hb hbig
  exact ⟨bx', O', cl', bs', ws', ev_dfn k (by decide) (by decide) (by decide) (by decide) h, h'⟩
theorem read_cl (k : Nat) {O : Nat → Prop} {bx : Bx} {d s n m cl : Nat} {p : AV} {z : Int} {c : List UInt8} {bs : List Nat} {ws : Ws} (D : DB O bx d s n m cl p z c bs ws) (i : Nat) (hi : i < n) :
    ∃ t : Bx, evFn cx0 ext0 (k + 1) 11 [.bp d 0, .v (.int .i64 i)] bx = some (.tup [.agg (u8l (shw c ws i)), .v (.int .i64 0)], bx ++ t) ∧ Pr0.Good t := by
  obtain ⟨t, h, ht⟩ := Pr0.read_ev 998 D i hi
  exact ⟨t, ev_dfn k (by decide) (by decide) (by decide) (by decide) h, ht⟩
theorem waits_cl (k : Nat) {O : Nat → Prop} {bx : Bx} {d s n m cl : Nat} {p : AV} {z : Int} {c : List UInt8} {bs : List Nat} {ws : Ws} (D : DB O bx d s n m cl p z c bs ws) (i : Nat) (hi : i < n) :
    evFn cx0 ext0 (k + 1) 13 [.bp d 0, .v (.int .i64 i)] bx = some (.v (.int .i64 ((wl ws i).length / 64 : Nat)), bx) :=
  ev_dfn k (by decide) (by decide) (by decide) (by decide) (Pr0.waits_ev 998 D i hi)
theorem fl_len {O : Nat → Prop} {bx : Bx} {d s n m cl : Nat} {p : AV} {z : Int} {c : List UInt8} {bs : List Nat} {ws : Ws} (D : DB O bx d s n m cl p z c bs ws) : ∀ q ∈ ws, (Pre.flBlk q.1 q.2.2).length = 64 := fun q hq => by
  obtain ⟨w1, w2, w3, w4, w5, w6⟩ := D.hw q hq
  exact bk_len (n := q.2.2.length / 64) (by omega) (by omega)
theorem flush_cl (k : Nat) {O : Nat → Prop} {bx : Bx} {d s n m cl : Nat} {z : Int} {c : List UInt8} {bs : List Nat} {ws : Ws} (D : DB O bx d s n m cl nilP z c bs ws) (hn : 0 < n) (hg : Pr0.Good bx) :
    ∃ (bx' : Bx) (c' : List UInt8), evFn cx0 ext0 (k + 1) 10 [.bp d 0] bx = some (.v (.int .i64 0), bx') ∧ DB O bx' d s n m cl nilP z c' [] [] ∧ (∀ j, j < n → bk c' j = shw c ws j) ∧
      (∀ j, ¬ O j → bx'[j]? = bx[j]?) ∧ bx'.length = bx.length ∧ Pr0.Good bx' := by
  have hu := Pr0.use_ev 998 D.hd (0 : Nat) D.slt
  rw [if_pos (by omega)] at hu
  obtain ⟨h1, h2⟩ := layS_bk D (fl_len D)
  refine ⟨_, _, ev_extD k (r := (.v (.int .i64 0), (bx.set s (u8l (flC ⟨s, n, m, cl, nilP, z, c, bs, ws⟩))).set m [stH cl []])) ?_, DB.empty D h1, fun j hj => ?_, fun j hO => ?_, by simp, Good.empty hg _ _ _ _⟩
  · unfold extD flA
    rw [if_neg (by decide), if_pos rfl]
    have hu' : evFn Pr0.cx0 Pr0.ext0 1000 25 [.bp d 0, .v (.int .i64 0)] bx = some (.v (.int .i64 0), bx) := hu
    simp only [hu', Option.bind_some, Nat.le_refl, if_true, dbA_of D]
    rw [if_pos (all_Good hg)]
  · show bk (Pre.layS Pre.flBlk n c bs ws bs) j = _
    rw [h2 j hj]
    rfl
  · have n1 : j ≠ s := fun e => hO (e ▸ D.od.2.1)
    have n2 : j ≠ m := fun e => hO (e ▸ D.od.2.2)
    rw [List.getElem?_set_ne (Ne.symm n2), List.getElem?_set_ne (Ne.symm n1)]
theorem cr_len {O : Nat → Prop} {bx : Bx} {d s n m cl : Nat} {p : AV} {z : Int} {c : List UInt8} {bs : List Nat} {ws : Ws} (D : DB O bx d s n m cl p z c bs ws) (ks : List Int) : ∀ q ∈ ws, (Pre.crBlk ks c q.1 q.2.2).length = 64 := fun q hq => Pre.crBlk_len (Pre.DB.wok D) D.hc ks q hq
theorem crash_cl (k : Nat) {O : Nat → Prop} {bx : Bx} {d s n m cl : Nat} {p : AV} {z : Int} {c : List UInt8} {bs : List Nat} {ws : Ws} (D : DB O bx d s n m cl p z c bs ws) {keep : AV} {ks : List Int} (hk : keepA bx s keep = some ks) :
    ∃ (bx' : Bx) (c' : List UInt8), evFn cx0 ext0 (k + 1) 12 [.bp d 0, keep] bx = some (.tup [], bx') ∧ DB O bx' d s n m cl p z c' [] [] ∧ (∀ j, j < n → bk c' j = if 0 < (wl ws j).length then Pre.crBlk ks c j (wl ws j) else bk c j) ∧
      (∀ j, ¬ O j → bx'[j]? = bx[j]?) ∧ bx'.length = bx.length ∧ (Pr0.Good bx → Pr0.Good bx') := by
  obtain ⟨h1, h2⟩ := layS_bk D (cr_len D ks)
  refine ⟨_, _, ev_extD k (r := (.tup [], (bx.set s (u8l (crC ks ⟨s, n, m, cl, p, z, c, bs, ws⟩))).set m [stH cl []])) ?_, DB.empty D h1, fun j hj => h2 j hj, fun j hO => ?_, by simp, fun hg => Good.empty hg _ _ _ _⟩
  · unfold extD
    rw [if_pos rfl]
    simp only [dbA_of D, Option.bind_some, hk, Option.map_some]
  · have n1 : j ≠ s := fun e => hO (e ▸ D.od.2.1)
    have n2 : j ≠ m := fun e => hO (e ▸ D.od.2.2)
    rw [List.getElem?_set_ne (Ne.symm n2), List.getElem?_set_ne (Ne.symm n1)]
/-- a number as one from 0 to n - 1 -/
theorem among_ev (m : Nat) (x : Int) (n : Nat) (h0 : 0 < n) (h1 : n < 2 ^ 62) : ∃ k : Nat, k < n ∧ cf (evFn cx0 ext0 (m + 1)) 9 [.v (.int .i64 x), .v (.int .i64 n)] = some (.v (.int .i64 k)) := by
  have k1 : IntKind.u64.wrap (n : Int) = n := by rw [wrapu64]; omega
  have k0 : (0 : Int) ≤ IntKind.u64.wrap x := by rw [wrapu64]; omega
  have k2 : (IntKind.u64.wrap x).tmod n = IntKind.u64.wrap x % n := Int.tmod_eq_emod_of_nonneg k0
  have k3 : 0 ≤ IntKind.u64.wrap x % n := Int.emod_nonneg _ (by omega)
  have k4 : IntKind.u64.wrap x % n < n := Int.emod_lt_of_pos _ (by omega)
  refine ⟨(IntKind.u64.wrap x % n).toNat, by omega, ?_⟩
  have k5 : IntKind.i64.wrap (IntKind.u64.wrap x % n) = ((IntKind.u64.wrap x % n).toNat : Int) := by rw [wrap64]; omega
  have h2 : decide ((n : Int) < 1) = false := decide_eq_false (by omega)
  have h4 : binA Try.prog .rem 65 (.v (.int .u64 (IntKind.u64.wrap x))) (.v (.int .u64 n)) = some (.v (.int .u64 (IntKind.u64.wrap x % n))) := by
    rw [bin_rem _ _ _ _ _ (by omega), k2]
  unfold cf
  rw [E_base_Among]
  refine ends_cf (P := Try.prog) ?_
  unfold F_base_Among
  have stq := (And.intro (h2) (And.intro (k1) (h4)))
  repeat first
    | ((with_reducible apply ends_bind); case h => first | (simp only [stp, stq]; first | done | rfl) | rfl)
    | ((with_reducible apply ends_t); case h => first | rfl | (simp only [stp, stq]; done))
    | ((with_reducible apply ends_f); case h => first | rfl | (simp only [stp, stq]; done))
  exact ends_some ⟨.inl rfl, _, rfl, congrArg (fun q => AV.v (.int .i64 q)) k5⟩
/-- acts: where, and a block -/
structure Acts (x : AV) (L : List (Int × List UInt8)) : Prop where
  ln : lenA Try.prog 22 x = some (.v (.int .i64 L.length))
  ix : ∀ i (h : i < L.length), ∃ a a1 a2, indexAddrA Try.prog 22 x (.v (.int .i64 i)) = some a ∧ fieldAddrA Try.prog 34 a 1 = some a1 ∧ fieldAddrA Try.prog 34 a 2 = some a2 ∧
    (∀ bx, loadA Try.prog 3 bx a1 = some (.v (.int .i64 L[i].1))) ∧ (∀ bx, loadA Try.prog 32 bx a2 = some (.agg (u8l L[i].2))) ∧ L[i].2.length = 64
end Go.Sy
