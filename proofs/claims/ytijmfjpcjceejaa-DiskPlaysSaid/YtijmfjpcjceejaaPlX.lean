/-
  Layer 04: both disks' boxes, and what the given disk does to its own. Layer 04: what the document's disk does, in the same words; both disks.
-/
import Derived.Test.YtijmfjpcjceejaaPlRef
namespace Go.Sy
open Go.Proofs
open Go.Sy.Pr0 (Wt Ws wEs DB DQ dbA dbA_of dbA_inv shw wl nilP)

/-- where the boxes lie -/
structure Ids where
  n : Nat
  d : Nat
  s : Nat
  m : Nat
  ps : Nat
  ry : Nat
  rs : Nat
  rw_ : Nat
  rq : Nat
/-- a disk, and its supply -/
structure St where
  l : Int
  u : Int
  g : Bool
  z : Int
  c : List UInt8
  w : Nat → List UInt8
def St.e (a : St) : Int := (useE a.l a.u a.g).1
def St.used (a : St) : St := { a with l := (useE a.l a.u a.g).2.1, u := (useE a.l a.u a.g).2.2.1, g := (useE a.l a.u a.g).2.2.2 }
/-- Write -/
def St.wr (a : St) (n : Nat) (i : Int) (b : List UInt8) : Int × St :=
  if 0 ≤ i ∧ i < (n : Int) then (if a.e = 0 then (0, { a.used with z := IntKind.i64.wrap (a.z + 1), w := fun j => if j = i.toNat then a.w i.toNat ++ b else a.w j }) else (a.e, a.used)) else (2, a)
/-- Force -/
def St.fo (a : St) (n : Nat) (i : Int) (b : List UInt8) : Int × St :=
  if 0 ≤ i ∧ i < (n : Int) then (if a.e = 0 then (0, { a.used with z := IntKind.i64.wrap (a.z + 1), c := spl a.c i.toNat b, w := fun j => if j = i.toNat then [] else a.w j }) else (a.e, a.used)) else (2, a)
/-- what a sector shows -/
def St.sh (a : St) (k : Nat) : List UInt8 := if 0 < (a.w k).length then bk (a.w k) ((a.w k).length / 64 - 1) else bk a.c k
def XB (I : Ids) (T : Nat → Prop) (bx : Bx) (a : St) : Prop := ∃ (O : Nat → Prop) (cl : Nat) (bs : List Nat) (ws : Ws), DB O bx I.d I.s I.n I.m cl (.bp I.ps 0) a.z a.c bs ws ∧ bx[I.ps]? = some (sup a.l a.u a.g) ∧ ¬ O I.ps ∧ (∀ j, T j ↔ O j ∨ j = I.ps) ∧ (∀ j, T j → j < bx.length) ∧ ∀ j, wl ws j = a.w j
def YB (I : Ids) (R : Nat → Prop) (bx : Bx) (a : St) : Prop := ∃ wt : Wl, RB R bx I.ry I.rs I.rw_ I.rq I.n a.l a.u a.g a.z a.c wt ∧ ∀ j, wtl wt j = a.w j
section
variable {I : Ids} {T R : Nat → Prop} {bx bx' : Bx} {a : St}
theorem XB.frame (X : XB I T bx a) (h : ∀ j, T j → j < bx.length → bx'[j]? = bx[j]?) (hlen : bx.length ≤ bx'.length) : XB I T bx' a := by
  obtain ⟨O, cl, bs, ws, D, hp, hO, hT, hlt, hw⟩ := X
  have hpl : I.ps < bx.length := (List.getElem?_eq_some_iff.1 hp).1
  exact ⟨O, cl, bs, ws, D.frame fun i hi hl => h i ((hT i).2 (.inl hi)) hl, by rw [h I.ps ((hT _).2 (.inr rfl)) hpl]; exact hp, hO, hT, fun j hj => Nat.lt_of_lt_of_le (hlt j hj) hlen, hw⟩
theorem XB.app (X : XB I T bx a) (t : Bx) : XB I T (bx ++ t) a := X.frame (fun j _ hj => List.getElem?_append_left hj) (by simp)
theorem XB.lt (X : XB I T bx a) : ∀ j, T j → j < bx.length := by obtain ⟨O, cl, bs, ws, D, hp, hO, hT, hlt, hw⟩ := X; exact hlt
theorem XB.sup (X : XB I T bx a) (l' u' : Int) (g' : Bool) : XB I T (bx.set I.ps (Go.Sy.sup l' u' g')) { a with l := l', u := u', g := g' } ∧ Stp T T bx (bx.set I.ps (Go.Sy.sup l' u' g')) := by
  obtain ⟨O, cl, bs, ws, D, hp, hO, hT, hlt, hw⟩ := X
  have hpl : I.ps < bx.length := (List.getElem?_eq_some_iff.1 hp).1
  refine ⟨⟨O, cl, bs, ws, D.frame fun i hi hl => List.getElem?_set_ne (fun e => by subst e; exact hO hi), List.getElem?_set_self hpl, hO, hT, fun j hj => by rw [List.length_set]; exact hlt j hj, hw⟩, ⟨by simp, fun j hj ht => List.getElem?_set_ne (fun e => by subst e; exact ht ((hT _).2 (.inr rfl))), fun j h => .inl h, fun gd => gd.set (eqCs_sup _ _ _) _⟩⟩
theorem YB.frame (Y : YB I R bx a) (h : ∀ j, R j → j < bx.length → bx'[j]? = bx[j]?) (hlen : bx.length ≤ bx'.length) : YB I R bx' a := by
  obtain ⟨wt, B, hw⟩ := Y
  exact ⟨wt, B.frame h hlen, hw⟩
theorem YB.app (Y : YB I R bx a) (t : Bx) : YB I R (bx ++ t) a := Y.frame (fun j _ hj => List.getElem?_append_left hj) (by simp)
theorem YB.lt (Y : YB I R bx a) : ∀ j, R j → j < bx.length := by obtain ⟨wt, B, hw⟩ := Y; exact B.hR
theorem bz0 : (List.replicate 64 (0 : UInt8)).length = 64 := by simp
/-- the given disk's calls: which 'evFn' reads them -/
theorem fn_x {f : FuncId} {args : List AV} {bx : Bx} {r : AV × Bx} (k : Nat) (h1 : f ≠ 12) (h2 : f ≠ 10) (h3 : f ≠ 26) (h4 : Pr0.dfn.contains f = true) (h : evFn Pr0.cx0 Pr0.ext0 (997 + 3) f args bx = some r) : evFn cx0 ext0 (k + 1) f args bx = some r := ev_dfn k h1 h2 h3 h4 h
theorem xwrite (k : Nat) (X : XB I T bx a) (i : Int) {b : List UInt8} (hb : b.length = 64) (hbig : ∀ j, (a.w j).length ≤ 64 * 60) :
    ∃ (bx' : Bx) (T' : Nat → Prop), evFn cx0 ext0 (k + 1) 8 [.bp I.d 0, .v (.int .i64 i), .agg (u8l b)] bx = some (.v (.int .i64 (a.wr I.n i b).1), bx') ∧ XB I T' bx' (a.wr I.n i b).2 ∧ Stp T T' bx bx' := by
  have X1 := X.app [u8l b]
  have S1 := Stp.app (T := T) bx (Pr0.Good.b1 b)
  have X1' := X1
  obtain ⟨O, cl, bs, ws, D, hp, hO, hT, hlt, hw⟩ := X1'
  have hu := Pr0.use_sup 997 D.hd hp i D.slt
  unfold St.wr
  by_cases hi : 0 ≤ i ∧ i < (I.n : Int)
  · rw [if_pos hi] at hu ⊢
    obtain ⟨X2, S2⟩ := X1.sup (useE a.l a.u a.g).2.1 (useE a.l a.u a.g).2.2.1 (useE a.l a.u a.g).2.2.2
    by_cases he : a.e = 0
    · rw [if_pos he]
      obtain ⟨i, rfl⟩ : ∃ j : Nat, i = j := ⟨i.toNat, by omega⟩
      have he' : (useE a.l a.u a.g).1 = 0 := he
      rw [he'] at hu
      obtain ⟨O2, cl2, bs2, ws2, D2, hp2, hO2, hT2, hlt2, hw2⟩ := X2
      have htO : ¬ O2 bx.length := fun h => by have := X.lt _ ((hT _).2 ((hT2 _).1 ((hT2 _).2 (.inl h)) |>.elim (fun h => (hT _).1 ((hT2 _).2 (.inl h)) |>.elim .inl .inr) .inr)); omega
      have hps : I.ps ≠ bx.length := fun e => by have := X.lt I.ps ((hT _).2 (.inr rfl)); omega
      have ht : ((bx ++ [u8l b]).set I.ps (Go.Sy.sup (useE a.l a.u a.g).2.1 (useE a.l a.u a.g).2.2.1 (useE a.l a.u a.g).2.2.2))[bx.length]? = some (u8l b) := by
        rw [List.getElem?_set_ne hps]
        simp
      obtain ⟨bx', O', cl', bs', ws', ev, D', hwl, hsub, hO', hfr, hlen, hg⟩ := Pr0.write_core 997 (by omega) hb hu D2 ht htO (by rw [hw2]; have := hbig i; simp only; omega)
      have hps1 : I.ps < ((bx ++ [u8l b]).set I.ps (Go.Sy.sup (useE a.l a.u a.g).2.1 (useE a.l a.u a.g).2.2.1 (useE a.l a.u a.g).2.2.2)).length := (List.getElem?_eq_some_iff.1 hp2).1
      have hlen0 := hlen
      simp only [List.length_set] at hlen hO' hlt2 hps1
      have hps2 : I.ps < ((bx ++ [u8l b]).set I.ps (Pr0.useS a.l a.u a.g)).length := by rw [List.length_set]; exact hps1
      refine ⟨bx', fun j => O' j ∨ j = I.ps, fn_x k (by decide) (by decide) (by decide) (by decide) ev, ⟨O', cl', bs', ws', D', by rw [hfr _ hps2 hO2]; exact hp2, fun h => (hO' _ h).elim hO2 (by omega), fun j => Iff.rfl, fun j hj => ?_, fun j => ?_⟩, ?_⟩
      · rcases hj with hj | rfl
        · rcases hO' j hj with h | h
          · have := hlt2 j ((hT2 j).2 (.inl h)); omega
          · omega
        · omega
      · rw [hwl j, hw2, hw2]
        simp only [Int.toNat_natCast]
      · have hTT : ∀ j, T j ↔ O2 j ∨ j = I.ps := hT2
        refine (S1.trans S2 fun _ h => h).trans ⟨hlen0, fun j hj ht => hfr j hj fun h => ht ((hTT j).2 (.inl h)), fun j hj => ?_, hg⟩ fun _ h => h
        rcases hj with hj | rfl
        · exact (hO' j hj).imp (fun h => (hTT j).2 (.inl h)) fun h => by rw [List.length_set]; exact h.1
        · exact .inl ((hTT _).2 (.inr rfl))
    · rw [if_neg he]
      exact ⟨_, T, fn_x k (by decide) (by decide) (by decide) (by decide) (Pr0.write_no 997 he hu).1, X2, S1.trans S2 fun _ h => h⟩
  · rw [if_neg hi] at hu ⊢
    exact ⟨_, T, fn_x k (by decide) (by decide) (by decide) (by decide) (Pr0.write_no 997 (by omega) hu).1, X1, S1⟩
theorem xforce (k : Nat) (X : XB I T bx a) (i : Int) {b : List UInt8} (hb : b.length = 64) :
    ∃ (bx' : Bx), evFn cx0 ext0 (k + 1) 14 [.bp I.d 0, .v (.int .i64 i), .agg (u8l b)] bx = some (.v (.int .i64 (a.fo I.n i b).1), bx') ∧ XB I T bx' (a.fo I.n i b).2 ∧ Stp T T bx bx' := by
  have X1 := X.app [u8l b]
  have S1 := Stp.app (T := T) bx (Pr0.Good.b1 b)
  have X1' := X1
  obtain ⟨O, cl, bs, ws, D, hp, hO, hT, hlt, hw⟩ := X1'
  have hu := Pr0.use_sup 997 D.hd hp i D.slt
  unfold St.fo
  by_cases hi : 0 ≤ i ∧ i < (I.n : Int)
  · rw [if_pos hi] at hu ⊢
    obtain ⟨X2, S2⟩ := X1.sup (useE a.l a.u a.g).2.1 (useE a.l a.u a.g).2.2.1 (useE a.l a.u a.g).2.2.2
    by_cases he : a.e = 0
    · rw [if_pos he]
      obtain ⟨i, rfl⟩ : ∃ j : Nat, i = j := ⟨i.toNat, by omega⟩
      have he' : (useE a.l a.u a.g).1 = 0 := he
      rw [he'] at hu
      obtain ⟨O2, cl2, bs2, ws2, D2, hp2, hO2, hT2, hlt2, hw2⟩ := X2
      have hps : I.ps ≠ bx.length := fun e => by have := X.lt I.ps ((hT _).2 (.inr rfl)); omega
      have ht : ((bx ++ [u8l b]).set I.ps (Go.Sy.sup (useE a.l a.u a.g).2.1 (useE a.l a.u a.g).2.2.1 (useE a.l a.u a.g).2.2.2))[bx.length]? = some (u8l b) := by
        rw [List.getElem?_set_ne hps]
        simp
      obtain ⟨bx', bs', ws', ev, D', hwl, hfr, hlen, hg⟩ := Pr0.force_core 997 (by omega) hb hu D2 ht
      have hlen0 := Nat.le_of_eq hlen.symm
      have hps2 : I.ps < ((bx ++ [u8l b]).set I.ps (Pr0.useS a.l a.u a.g)).length := (List.getElem?_eq_some_iff.1 hp2).1
      simp only [List.length_set] at hlen hlt2
      refine ⟨bx', fn_x k (by decide) (by decide) (by decide) (by decide) ev, ⟨O2, cl2, bs', ws', D', by rw [hfr _ hO2]; exact hp2, hO2, hT2, fun j hj => ?_, fun j => ?_⟩, ?_⟩
      · have := hlt2 j hj
        omega
      · rw [hwl j, hw2]
        simp only [Int.toNat_natCast]
      · have hTT : ∀ j, T j ↔ O2 j ∨ j = I.ps := hT2
        exact (S1.trans S2 fun _ h => h).trans ⟨hlen0, fun j hj ht => hfr j fun h => ht ((hTT j).2 (.inl h)), fun j hj => .inl hj, hg⟩ fun _ h => h
    · rw [if_neg he]
      exact ⟨_, fn_x k (by decide) (by decide) (by decide) (by decide) (Pr0.write_no 997 he hu).2, X2, S1.trans S2 fun _ h => h⟩
  · rw [if_neg hi] at hu ⊢
    exact ⟨_, fn_x k (by decide) (by decide) (by decide) (by decide) (Pr0.write_no 997 (by omega) hu).2, X1, S1⟩
/-- nothing waits any more -/
def St.calm (a : St) (c : List UInt8) : St := { a with c := c, w := fun _ => [] }
theorem xflush (k : Nat) (X : XB I T bx a) (hn : 0 < I.n) (hg : Pr0.Good bx) :
    (a.e ≠ 0 → ∃ bx', evFn cx0 ext0 (k + 1) 10 [.bp I.d 0] bx = some (.v (.int .i64 a.e), bx') ∧ XB I T bx' a.used ∧ Stp T T bx bx') ∧
    (a.e = 0 → ∃ bx' c', evFn cx0 ext0 (k + 1) 10 [.bp I.d 0] bx = some (.v (.int .i64 0), bx') ∧ XB I T bx' (a.used.calm c') ∧ c'.length = I.n * 64 ∧ (∀ j, j < I.n → bk c' j = a.sh j) ∧ Stp T T bx bx') := by
  have X1' := X
  obtain ⟨O, cl, bs, ws, D, hp, hO, hT, hlt, hw⟩ := X1'
  have hu := Pr0.use_sup 998 D.hd hp 0 D.slt
  rw [if_pos ⟨by omega, by omega⟩] at hu
  obtain ⟨X2, S2⟩ := X.sup (useE a.l a.u a.g).2.1 (useE a.l a.u a.g).2.2.1 (useE a.l a.u a.g).2.2.2
  have hu' : evFn Pr0.cx0 Pr0.ext0 1000 25 [.bp I.d 0, .v (.int .i64 0)] bx = some (.v (.int .i64 a.e), bx.set I.ps (Pr0.useS a.l a.u a.g)) := hu
  refine ⟨fun he => ⟨_, ev_extD k (r := (.v (.int .i64 a.e), bx.set I.ps (Pr0.useS a.l a.u a.g))) ?_, X2, S2⟩, fun he => ?_⟩
  · unfold extD flA
    rw [if_neg (by decide), if_pos rfl]
    simp only [hu', Option.bind_some, List.length_set, Nat.le_refl, if_true]
    rw [if_neg he]
  · obtain ⟨O2, cl2, bs2, ws2, D2, hp2, hO2, hT2, hlt2, hw2⟩ := X2
    obtain ⟨h1, h2⟩ := layS_bk D2 (fl_len D2)
    have hg2 : Pr0.Good (bx.set I.ps (Pr0.useS a.l a.u a.g)) := S2.gd hg
    refine ⟨_, _, ev_extD k (r := (.v (.int .i64 0), ((bx.set I.ps (Pr0.useS a.l a.u a.g)).set I.s (u8l (flC ⟨I.s, I.n, I.m, cl2, .bp I.ps 0, a.z, a.c, bs2, ws2⟩))).set I.m [stH cl2 []])) ?_, ⟨O2, cl2, [], [], DB.empty D2 h1, ?_, hO2, hT2, fun j hj => ?_, fun j => rfl⟩, h1, fun j hj => ?_, S2.trans (T1 := T) ⟨by simp, fun j hj ht => ?_, fun j h => .inl h, fun gd => Good.empty gd _ _ _ _⟩ fun _ h => h⟩
    · unfold extD flA
      rw [if_neg (by decide), if_pos rfl]
      simp only [hu', Option.bind_some, List.length_set, Nat.le_refl, if_true]
      rw [if_pos he, show dbA (bx.set I.ps (Pr0.useS a.l a.u a.g)) I.d = _ from dbA_of D2]
      simp only [Option.bind_some]
      rw [if_pos (all_Good hg2)]
    · rw [List.getElem?_set_ne (fun e : I.m = I.ps => hO2 (e ▸ D2.od.2.2)), List.getElem?_set_ne (fun e : I.s = I.ps => hO2 (e ▸ D2.od.2.1))]
      exact hp2
    · have := hlt2 j hj
      simp only [List.length_set] at this ⊢
      exact this
    · show bk (Pre.layS Pre.flBlk I.n a.c bs2 ws2 bs2) j = _
      rw [show bk (Pre.layS Pre.flBlk I.n a.c bs2 ws2 bs2) j = _ from h2 j hj, hw2]
      rfl
    · have n1 : j ≠ I.s := fun e => ht ((hT2 _).2 (.inl (e ▸ D2.od.2.1)))
      have n2 : j ≠ I.m := fun e => ht ((hT2 _).2 (.inl (e ▸ D2.od.2.2)))
      rw [List.getElem?_set_ne (Ne.symm n2), List.getElem?_set_ne (Ne.symm n1)]
theorem xcrash (k : Nat) (X : XB I T bx a) {keep : AV} {ks : List Int} (hk : keepA bx I.s keep = some ks) :
    ∃ bx' c', evFn cx0 ext0 (k + 1) 12 [.bp I.d 0, keep] bx = some (.tup [], bx') ∧ XB I T bx' (a.calm c') ∧ c'.length = I.n * 64 ∧ (∀ j, j < I.n → bk c' j = crS ks a.c (a.w j) j) ∧ Stp T T bx bx' := by
  obtain ⟨O, cl, bs, ws, D, hp, hO, hT, hlt, hw⟩ := X
  obtain ⟨bx', c', ev, D', hc', hfr, hlen, hg⟩ := crash_cl k D hk
  refine ⟨bx', c', ev, ⟨O, cl, [], [], D', by rw [hfr _ hO]; exact hp, hO, hT, fun j hj => by rw [hlen]; exact hlt j hj, fun j => rfl⟩, D'.hc, fun j hj => ?_, ⟨by omega, fun j hj ht => hfr j fun h => ht ((hT j).2 (.inl h)), fun j h => .inl h, hg⟩⟩
  rw [hc' j hj, hw]
  unfold crS Pre.crBlk
  by_cases h0 : 0 < (a.w j).length
  · rw [if_pos h0]
  · rw [if_neg h0]
    have : (a.w j).length / 64 = 0 := by omega
    rw [this, if_neg (by have := Pre.keepN_le ks j 0; omega)]
theorem xread (k : Nat) (X : XB I T bx a) (i : Int) : ∃ t : Bx, Pr0.Good t ∧ evFn cx0 ext0 (k + 1) 11 [.bp I.d 0, .v (.int .i64 i)] bx =
    if 0 ≤ i ∧ i < (I.n : Int) then some (.tup [.agg (u8l (a.sh i.toNat)), .v (.int .i64 0)], bx ++ t) else some (.tup [.agg (u8l (List.replicate 64 0)), .v (.int .i64 2)], bx ++ t) := by
  obtain ⟨O, cl, bs, ws, D, hp, hO, hT, hlt, hw⟩ := X
  by_cases hi : 0 ≤ i ∧ i < (I.n : Int)
  · obtain ⟨i, rfl⟩ : ∃ j : Nat, i = j := ⟨i.toNat, by omega⟩
    obtain ⟨t, ev, hg⟩ := read_cl k D i (by omega)
    refine ⟨t, hg, ?_⟩
    rw [if_pos hi, ev]
    unfold shw
    rw [hw]
    rfl
  · refine ⟨[u8l (List.replicate 64 0)], Pr0.Good.b1 _, ?_⟩
    rw [if_neg hi]
    exact fn_x k (by decide) (by decide) (by decide) (by decide) (Pr0.read_out 998 D hi)
theorem xwaits (k : Nat) (X : XB I T bx a) (i : Int) : evFn cx0 ext0 (k + 1) 13 [.bp I.d 0, .v (.int .i64 i)] bx = some (.v (.int .i64 (if 0 ≤ i ∧ i < (I.n : Int) then (((a.w i.toNat).length / 64 : Nat) : Int) else 0)), bx) := by
  obtain ⟨O, cl, bs, ws, D, hp, hO, hT, hlt, hw⟩ := X
  by_cases hi : 0 ≤ i ∧ i < (I.n : Int)
  · obtain ⟨i, rfl⟩ : ∃ j : Nat, i = j := ⟨i.toNat, by omega⟩
    rw [if_pos hi, Int.toNat_natCast, ← hw]
    exact waits_cl k D i (by omega)
  · rw [if_neg hi]
    exact fn_x k (by decide) (by decide) (by decide) (by decide) (Pr0.waits_out 998 D hi)
theorem ximage (k : Nat) (X : XB I T bx a) (h1 : 1 ≤ I.n) (h2 : I.n ≤ 2048) : evFn cx0 ext0 (k + 1) 18 [.bp I.d 0] bx = some (.bsl (bx.length + 1) 0 I.n 64, bx ++ [[], u8l a.c]) := by
  obtain ⟨O, cl, bs, ws, D, hp, hO, hT, hlt, hw⟩ := X
  exact fn_x k (by decide) (by decide) (by decide) (by decide) (Pr0.image_ev 998 D h1 h2)
theorem xload_no (k : Nat) (X : XB I T bx a) {x : AV} {t : Nat} (hx : lenA Try.prog 35 x = some (.v (.int .i64 t))) (ht : t ≠ I.n) : evFn cx0 ext0 (k + 1) 15 [.bp I.d 0, x] bx = some (.v (.int .i64 2), bx) := by
  obtain ⟨O, cl, bs, ws, D, hp, hO, hT, hlt, hw⟩ := X
  exact fn_x k (by decide) (by decide) (by decide) (by decide) (Pr0.load_no 999 D hx ht)
theorem xload_ok (k : Nat) (X : XB I T bx a) {x : AV} (hx : lenA Try.prog 35 x = some (.v (.int .i64 I.n))) {cs : List UInt8} (hcs : cs.length = I.n * 64) (hr : readA bx x = some (I.n, u8l cs)) :
    ∃ bx', evFn cx0 ext0 (k + 1) 15 [.bp I.d 0, x] bx = some (.v (.int .i64 0), bx') ∧ XB I T bx' (a.calm cs) ∧ Stp T T bx bx' := by
  obtain ⟨O, cl, bs, ws, D, hp, hO, hT, hlt, hw⟩ := X
  have ev := Pr0.load_ok 999 D hx hcs hr
  refine ⟨_, fn_x k (by decide) (by decide) (by decide) (by decide) ev, ⟨O, cl, [], [], DB.empty D hcs, ?_, hO, hT, fun j hj => ?_, fun j => rfl⟩, ⟨by simp, fun j hj ht => ?_, fun j h => .inl h, fun gd => Good.empty gd _ _ _ _⟩⟩
  · rw [List.getElem?_set_ne (fun e : I.m = I.ps => hO (e ▸ D.od.2.2)), List.getElem?_set_ne (fun e : I.s = I.ps => hO (e ▸ D.od.2.1))]
    exact hp
  · simp only [List.length_set]
    exact hlt j hj
  · have n1 : j ≠ I.s := fun e => ht ((hT _).2 (.inl (e ▸ D.od.2.1)))
    have n2 : j ≠ I.m := fun e => ht ((hT _).2 (.inl (e ▸ D.od.2.2)))
    rw [List.getElem?_set_ne (Ne.symm n2), List.getElem?_set_ne (Ne.symm n1)]
end
end Go.Sy

namespace Go.Sy
open Go.Proofs
open Go.Sy.Pr0 (nilP)

section
variable {I : Ids} {T R : Nat → Prop} {bx bx' : Bx} {a : St}
theorem wr_eq (n : Nat) (i : Nat) (b : List UInt8) (hi : i < n) (he : a.e = 0) : a.wr n i b = (0, { a.used with z := IntKind.i64.wrap (a.z + 1), w := fun j => if j = i then a.w i ++ b else a.w j }) := by
  unfold St.wr
  rw [if_pos ⟨by omega, by omega⟩, if_pos he]
  rfl
theorem fo_eq (n : Nat) (i : Nat) (b : List UInt8) (hi : i < n) (he : a.e = 0) : a.fo n i b = (0, { a.used with z := IntKind.i64.wrap (a.z + 1), c := spl a.c i b, w := fun j => if j = i then [] else a.w j }) := by
  unfold St.fo
  rw [if_pos ⟨by omega, by omega⟩, if_pos he]
  rfl
theorem YB.used (Y : YB I R bx a) : YB I R (bx.set I.rq (useS a.l a.u a.g)) a.used := by
  obtain ⟨wt, B, hw⟩ := Y
  exact ⟨wt, B.sup _ _ _, hw⟩
theorem YB.stp (Y : YB I R bx a) : Stp R R bx (bx.set I.rq (useS a.l a.u a.g)) := by
  obtain ⟨wt, B, hw⟩ := Y
  exact Stp.used B _ _ _
theorem ywrite (k : Nat) (Y : YB I R bx a) (i : Int) {b : List UInt8} (hb : b.length = 64) (hbig : ∀ j, (a.w j).length ≤ 64 * 60) :
    ∃ (bx' : Bx) (R' : Nat → Prop), evFn cx0 ext0 (k + 2) 38 [.bp I.ry 0, .v (.int .i64 i), .agg (u8l b)] bx = some (.v (.int .i64 (a.wr I.n i b).1), bx') ∧ YB I R' bx' (a.wr I.n i b).2 ∧ Stp R R' bx bx' := by
  have Y1 := Y.app [u8l b]
  have S1 := Stp.app (T := R) bx (Pr0.Good.b1 b)
  have Y' := Y
  obtain ⟨wt, B, hw⟩ := Y'
  by_cases hi : 0 ≤ i ∧ i < (I.n : Int)
  · by_cases he : a.e = 0
    · obtain ⟨i, rfl⟩ : ∃ j : Nat, i = j := ⟨i.toNat, by omega⟩
      rw [wr_eq I.n i b (by omega) he]
      obtain ⟨bx', R', wt', ev, B', hwt, S⟩ := rwrite_ok k B (i := i) (by omega) hb he (by rw [hw]; have := hbig i; omega)
      exact ⟨bx', R', ev, ⟨wt', B', fun j => by rw [hwt j, hw, hw]⟩, S⟩
    · unfold St.wr
      rw [if_pos hi, if_neg he]
      exact ⟨_, R, rwrite_err k B hi b he, Y1.used, S1.trans Y1.stp fun _ h => h⟩
  · unfold St.wr
    rw [if_neg hi]
    exact ⟨_, R, rwrite_out k B hi b, Y1, S1⟩
theorem yforce (k : Nat) (Y : YB I R bx a) (i : Int) {b : List UInt8} (hb : b.length = 64) :
    ∃ (bx' : Bx), evFn cx0 ext0 (k + 2) 29 [.bp I.ry 0, .v (.int .i64 i), .agg (u8l b)] bx = some (.v (.int .i64 (a.fo I.n i b).1), bx') ∧ YB I R bx' (a.fo I.n i b).2 ∧ Stp R R bx bx' := by
  have Y1 := Y.app [u8l b]
  have S1 := Stp.app (T := R) bx (Pr0.Good.b1 b)
  have Y' := Y
  obtain ⟨wt, B, hw⟩ := Y'
  by_cases hi : 0 ≤ i ∧ i < (I.n : Int)
  · by_cases he : a.e = 0
    · obtain ⟨i, rfl⟩ : ∃ j : Nat, i = j := ⟨i.toNat, by omega⟩
      rw [fo_eq I.n i b (by omega) he]
      obtain ⟨bx', ev, B', S⟩ := rforce_ok k B (i := i) (by omega) hb he
      refine ⟨bx', ev, ⟨_, B', fun j => ?_⟩, S⟩
      rw [wtl_set wt i (by rw [B.hl]; omega), hw]
      rfl
    · unfold St.fo
      rw [if_pos hi, if_neg he]
      exact ⟨_, rforce_err k B hi b he, Y1.used, S1.trans Y1.stp fun _ h => h⟩
  · unfold St.fo
    rw [if_neg hi]
    exact ⟨_, rforce_out k B hi b, Y1, S1⟩
theorem yflush (k : Nat) (hk : 2050 ≤ k) (Y : YB I R bx a) (hn : I.n ≤ 2048) (hg : Pr0.Good bx) :
    (a.e ≠ 0 → ∃ bx', evFn cx0 ext0 (k + 2) 30 [.bp I.ry 0] bx = some (.v (.int .i64 a.e), bx') ∧ YB I R bx' a.used ∧ Stp R R bx bx') ∧
    (a.e = 0 → ∃ bx' c', evFn cx0 ext0 (k + 2) 30 [.bp I.ry 0] bx = some (.v (.int .i64 0), bx') ∧ YB I R bx' (a.used.calm c') ∧ c'.length = I.n * 64 ∧ (∀ j, j < I.n → bk c' j = a.sh j) ∧ Stp R R bx bx') := by
  have Y' := Y
  obtain ⟨wt, B, hw⟩ := Y'
  refine ⟨fun he => ⟨_, rflush_err k B he, Y.used, Y.stp⟩, fun he => ?_⟩
  obtain ⟨bx', c', wt', ev, B', hc', hwt, S⟩ := rflush_ok (k + 1) hn (by omega) B hg he
  refine ⟨bx', c', ev, ⟨wt', B', fun j => by rw [hwt j]; rfl⟩, B'.hc, fun j hj => ?_, S⟩
  rw [hc' j hj]
  unfold shr
  rw [hw]
  rfl
theorem ycrash (k : Nat) (hk : 2050 ≤ k) (Y : YB I R bx a) (hn : I.n ≤ 2048) {keep : AV} {ks : List Int} (hI : ∀ y : Bx, Pre.Ints y keep ks) :
    ∃ bx' c', evFn cx0 ext0 (k + 1) 32 [.bp I.ry 0, keep] bx = some (.tup [], bx') ∧ YB I R bx' (a.calm c') ∧ c'.length = I.n * 64 ∧ (∀ j, j < I.n → bk c' j = crS ks a.c (a.w j) j) ∧ Stp R R bx bx' := by
  obtain ⟨wt, B, hw⟩ := Y
  obtain ⟨bx', c', wt', ev, B', hc', hwt, S⟩ := rcrash k hn (by omega) B hI
  exact ⟨bx', c', ev, ⟨wt', B', fun j => by rw [hwt j]; rfl⟩, B'.hc, fun j hj => by rw [hc' j hj, hw], S⟩
theorem yread (k : Nat) (Y : YB I R bx a) (i : Int) : evFn cx0 ext0 (k + 2) 24 [.bp I.ry 0, .v (.int .i64 i)] bx =
    if 0 ≤ i ∧ i < (I.n : Int) then some (.tup [.agg (u8l (a.sh i.toNat)), .v (.int .i64 0)], bx ++ [u8l (a.sh i.toNat)]) else some (.tup [.agg (u8l (List.replicate 64 0)), .v (.int .i64 2)], bx ++ [u8l (List.replicate 64 0)]) := by
  obtain ⟨wt, B, hw⟩ := Y
  rw [rread k B i]
  have : shr a.c wt i.toNat = a.sh i.toNat := by
    unfold shr
    rw [hw]
    rfl
  rw [this]
theorem yload_no (k : Nat) (Y : YB I R bx a) {x : AV} {m : Nat} {cs : List UInt8} (hx : Blks R bx x m cs) (hm : m ≠ I.n) : evFn cx0 ext0 (k + 1) 37 [.bp I.ry 0, x] bx = some (.v (.int .i64 2), bx) := by
  obtain ⟨wt, B, hw⟩ := Y
  exact rload_no k B hx hm
theorem yload_ok (k : Nat) (hk : 2050 ≤ k) (Y : YB I R bx a) (hn : I.n ≤ 2048) {x : AV} {cs : List UInt8} (hx : Blks R bx x I.n cs) :
    ∃ bx', evFn cx0 ext0 (k + 1) 37 [.bp I.ry 0, x] bx = some (.v (.int .i64 0), bx') ∧ YB I R bx' (a.calm cs) ∧ Stp R R bx bx' := by
  obtain ⟨wt, B, hw⟩ := Y
  obtain ⟨bx', wt', ev, B', hwt, S⟩ := rload_ok k hn (by omega) B hx
  exact ⟨bx', ev, ⟨wt', B', fun j => by rw [hwt j]; rfl⟩, S⟩
/-- both disks, among other boxes -/
def J (I : Ids) (bx : Bx) (a b : St) : Prop := ∃ T R, XB I T bx a ∧ YB I R bx b ∧ (∀ j, T j → ¬ R j) ∧ Pr0.Good bx
variable {b a' b' : St}
theorem J.x {T T' R : Nat → Prop} (X : XB I T' bx' a') (Y : YB I R bx b) (hd : ∀ j, T j → ¬ R j) (hg : Pr0.Good bx) (S : Stp T T' bx bx') : J I bx' a' b :=
  ⟨T', R, X, Y.frame (fun j hj hl => S.fr j hl fun ht => hd j ht hj) S.len, fun j hj hr => by rcases S.nw j hj with h | h; exact hd j h hr; have := Y.lt j hr; omega, S.gd hg⟩
theorem J.y {T R R' : Nat → Prop} (X : XB I T bx a) (Y : YB I R' bx' b') (hd : ∀ j, T j → ¬ R j) (hg : Pr0.Good bx) (S : Stp R R' bx bx') : J I bx' a b' :=
  ⟨T, R', X.frame (fun j hj hl => S.fr j hl (hd j hj)) S.len, Y, fun j hj hr => by rcases S.nw j hr with h | h; exact hd j hj h; have := X.lt j hj; omega, S.gd hg⟩
theorem J.app (h : J I bx a b) {t : Bx} (ht : Pr0.Good t) : J I (bx ++ t) a b := by
  obtain ⟨T, R, X, Y, hd, hg⟩ := h
  exact ⟨T, R, X.app t, Y.app t, hd, hg.app ht⟩
end
end Go.Sy
