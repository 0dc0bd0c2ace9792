/-
  Layer 04: a disk's boxes, taken apart; disk's functions as the reader takes them.
-/
import Derived.Test.YtijmfjpcjceejaaPfCon2
namespace Go.Sy.Pr0
open Go.Proofs

def natsA : List AV → Option (List Nat)
  | [] => some []
  | .v (.int .i64 n) :: r => if 0 ≤ n then (natsA r).map fun l => n.toNat :: l else none
  | _ => none
theorem natsA_inv : ∀ {l : List AV} {bs : List Nat}, natsA l = some bs → l = bs.map fun (n : Nat) => .v (.int .i64 (n : Int))
  | [], bs, h => by simp only [natsA, Option.some.injEq] at h; subst h; rfl
  | .v (.int .i64 n) :: r, bs, h => by
    simp only [natsA] at h
    split at h
    · rename_i hn
      rw [Option.map_eq_some_iff] at h
      obtain ⟨l, h, rfl⟩ := h
      rw [natsA_inv h, List.map_cons]
      congr 3
      omega
    · simp at h
theorem natsA_of : ∀ bs : List Nat, natsA (bs.map fun (n : Nat) => .v (.int .i64 (n : Int))) = some bs
  | [] => rfl
  | n :: bs => by
    simp only [List.map_cons, natsA]
    rw [if_pos (by omega), natsA_of bs]
    simp
def wtA (bx : Bx) (d s m n : Nat) : AV → Option Wt
  | .tup [.v (.int .i64 k), .gs b cnt 64] => (bx[b]?).bind fun l => (byA8 l).bind fun e => if 0 ≤ k ∧ k < (n : Int) ∧ b ≠ d ∧ b ≠ s ∧ b ≠ m ∧ e.length = cnt * 64 ∧ 0 < cnt ∧ cnt < 2 ^ 26 then some (k.toNat, b, e) else none
  | _ => none
def wtsA (bx : Bx) (d s m n : Nat) : List AV → Option Ws
  | [] => some []
  | x :: r => (wtA bx d s m n x).bind fun q => (wtsA bx d s m n r).map fun l => q :: l
theorem wtA_inv {bx : Bx} {d s m n : Nat} {x : AV} {q : Wt} (h : wtA bx d s m n x = some q) :
    x = .tup [.v (.int .i64 (q.1 : Int)), .gs q.2.1 (q.2.2.length / 64) 64] ∧ q.1 < n ∧ bx[q.2.1]? = some (u8l q.2.2) ∧ q.2.2.length % 64 = 0 ∧ 0 < q.2.2.length ∧ q.2.2.length < 2 ^ 32 ∧ True ∧ q.2.1 ≠ d ∧ q.2.1 ≠ s ∧ q.2.1 ≠ m := by
  unfold wtA at h
  split at h
  · rename_i k b cnt
    rw [Option.bind_eq_some_iff] at h
    obtain ⟨l, hl, h⟩ := h
    rw [Option.bind_eq_some_iff] at h
    obtain ⟨e, he, h⟩ := h
    split at h
    · rename_i hc
      obtain ⟨c1, c2, c3, c4, c5, c6, c7, c8⟩ := hc
      simp only [Option.some.injEq] at h
      subst h
      have := byA8_inv he
      subst this
      refine ⟨?_, by show k.toNat < n; omega, hl, by show e.length % 64 = 0; omega, by show 0 < e.length; omega, by show e.length < 2 ^ 32; omega, trivial, c3, c4, c5⟩
      show _ = AV.tup [.v (.int .i64 (k.toNat : Int)), .gs b (e.length / 64) 64]
      rw [show e.length / 64 = cnt by omega, show (k.toNat : Int) = k by omega]
    · simp at h
  · simp at h
theorem wtsA_inv {bx : Bx} {d s m n : Nat} : ∀ {l : List AV} {ws : Ws}, wtsA bx d s m n l = some ws →
    l = wEs ws ∧ ∀ q ∈ ws, q.1 < n ∧ bx[q.2.1]? = some (u8l q.2.2) ∧ q.2.2.length % 64 = 0 ∧ 0 < q.2.2.length ∧ q.2.2.length < 2 ^ 32 ∧ True ∧ q.2.1 ≠ d ∧ q.2.1 ≠ s ∧ q.2.1 ≠ m
  | [], ws, h => by simp only [wtsA, Option.some.injEq] at h; subst h; exact ⟨rfl, by simp⟩
  | x :: r, ws, h => by
    simp only [wtsA, Option.bind_eq_some_iff, Option.map_eq_some_iff] at h
    obtain ⟨q, hq, l, hl, rfl⟩ := h
    obtain ⟨g1, g2⟩ := wtA_inv hq
    obtain ⟨g3, g4⟩ := wtsA_inv hl
    refine ⟨?_, fun p hp => ?_⟩
    · rw [g1, g3]
      rfl
    · rcases List.mem_cons.1 hp with rfl | hp
      · exact g2
      · exact g4 p hp
theorem byA8_of (b : List UInt8) : byA8 (u8l b) = some b := byA8_u8l b
theorem wtsA_of {bx : Bx} {d s m n : Nat} : ∀ {ws : Ws}, (∀ q ∈ ws, q.1 < n ∧ bx[q.2.1]? = some (u8l q.2.2) ∧ q.2.2.length % 64 = 0 ∧ 0 < q.2.2.length ∧ q.2.2.length < 2 ^ 32 ∧ q.2.1 ≠ d ∧ q.2.1 ≠ s ∧ q.2.1 ≠ m) → wtsA bx d s m n (wEs ws) = some ws
  | [], _ => rfl
  | q :: ws, h => by
    obtain ⟨h1, h2, h3, h4, h5, h6⟩ := h q (by simp)
    have ih := wtsA_of (bx := bx) (d := d) (s := s) (m := m) (n := n) (ws := ws) fun q hq => h q (by simp [hq])
    show wtsA bx d s m n (.tup [.v (.int .i64 (q.1 : Int)), .gs q.2.1 (q.2.2.length / 64) 64] :: wEs ws) = _
    simp only [wtsA, wtA, h2, Option.bind_some, byA8_of]
    rw [if_pos ⟨by omega, by omega, h6.1, h6.2.1, h6.2.2, by omega, by omega, by omega⟩, ih]
    simp
/-- what a disk's boxes tell -/
structure DQ where
  s : Nat
  n : Nat
  m : Nat
  cl : Nat
  p : AV
  z : Int
  c : List UInt8
  bs : List Nat
  ws : Ws
def dbA (bx : Bx) (d : Nat) : Option DQ :=
  match bx[d]? with
  | some [p, .bsl s 0 n 64, .mp m, .v (.int .i64 z)] => (bx[s]?).bind fun cs => (byA8 cs).bind fun c => match bx[m]? with
    | some (.tup (.v (.int .i64 cl) :: st) :: es) => (natsA st).bind fun bs => (wtsA bx d s m n es).bind fun ws =>
      if (d ≠ s ∧ d ≠ m ∧ m ≠ s) ∧ c.length = n * 64 ∧ 0 ≤ cl ∧ (∀ b ∈ bs, (b : Int) < cl) ∧ bs.Nodup ∧ bs.length = ws.length ∧ (ws.map (·.1)).Nodup ∧ (ws.map (·.2.1)).Nodup then some ⟨s, n, m, cl.toNat, p, z, c, bs, ws⟩ else none
    | _ => none
  | _ => none
theorem dbA_inv {bx : Bx} {d : Nat} {q : DQ} (h : dbA bx d = some q) : DB (fun _ => True) bx d q.s q.n q.m q.cl q.p q.z q.c q.bs q.ws := by
  unfold dbA at h
  split at h
  case h_2 => simp at h
  rename_i p s n m z hd
  rw [Option.bind_eq_some_iff] at h
  obtain ⟨cs, hs, h⟩ := h
  rw [Option.bind_eq_some_iff] at h
  obtain ⟨c, hc, h⟩ := h
  split at h
  case h_2 => simp at h
  rename_i cl st es hm
  rw [Option.bind_eq_some_iff] at h
  obtain ⟨bs, hbs, h⟩ := h
  rw [Option.bind_eq_some_iff] at h
  obtain ⟨ws, hws, h⟩ := h
  split at h
  case isFalse => simp at h
  rename_i hcond
  obtain ⟨c1, c2, c3, c4, c5, c6, c7, c8⟩ := hcond
  simp only [Option.some.injEq] at h
  subst h
  have := byA8_inv hc
  subst this
  have := natsA_inv hbs
  subst this
  obtain ⟨rfl, hw⟩ := wtsA_inv hws
  obtain ⟨cl, rfl⟩ : ∃ x : Nat, cl = x := ⟨cl.toNat, by omega⟩
  exact ⟨hd, hs, c2, hm, fun b hb => by have := c4 b hb; simp only [Int.toNat_natCast]; omega, c5, c6, hw, c7, c8, c1, ⟨trivial, trivial, trivial⟩⟩
theorem dbA_of {O : Nat → Prop} {bx : Bx} {d s n m cl : Nat} {p : AV} {z : Int} {c : List UInt8} {bs : List Nat} {ws : Ws} (D : DB O bx d s n m cl p z c bs ws) : dbA bx d = some ⟨s, n, m, cl, p, z, c, bs, ws⟩ := by
  have hw := wtsA_of (bx := bx) (d := d) (s := s) (m := m) (n := n) (ws := ws) fun q hq => by
    obtain ⟨h1, h2, h3, h4, h5, _, h6⟩ := D.hw q hq
    exact ⟨h1, h2, h3, h4, h5, h6⟩
  unfold dbA
  simp only [D.hd, D.hs, Option.bind_some, byA8_of, D.hm, stH, natsA_of, hw]
  rw [if_pos ⟨D.ne, D.hc, by omega, fun b hb => by have := D.lt b hb; omega, D.nd, D.ln, D.kn, D.bn⟩]
  simp

theorem ext0_snd : ∀ (f : FuncId) (args : List AV) (bx : Bx) (r : AV) (bx' : Bx), evFn cx0 ext0 1000 f args bx = some (r, bx') → Sound Try.prog f args bx r bx' := fun f args bx r bx' h => evFn_sound (cx := cx0) ext0_ok 1000 f args bx r bx' h
theorem shows_snd {bx : Bx} {d : Nat} {q : DQ} (h : dbA bx d = some q) (i : Nat) (hi : i < q.n) : Sound Try.prog 26 [.bp d 0, .v (.int .i64 i)] bx (.agg (u8l (shw q.c q.ws i))) bx :=
  (ext0_snd _ _ _ _ _ (shows_ev 999 (dbA_inv h) i hi)).drop (by simp only [AV.keep, AV.keepL_eq, u8l_keep])
def dfn : List FuncId := [7, 8, 11, 13, 14, 15, 16, 17, 18, 25, 27]
noncomputable def ext1 : FnA := fun f args bx =>
  if f = 26 then (match args with
    | [.bp d 0, .v (.int .i64 i)] => (dbA bx d).bind fun q => if 0 ≤ i ∧ i < (q.n : Int) then some (.agg (u8l (shw q.c q.ws i.toNat)), bx) else none
    | _ => none)
  else if dfn.contains f then evFn cx0 ext0 1000 f args bx
  else extN f args bx
theorem ext1_ok (f : FuncId) (args : List AV) (bx : Bx) (r : AV) (bx' : Bx) (h : ext1 f args bx = some (r, bx')) : Sound Try.prog f args bx r bx' := by
  unfold ext1 at h
  split at h
  · rename_i hf
    subst hf
    split at h
    · rename_i d i
      rw [Option.bind_eq_some_iff] at h
      obtain ⟨q, hq, h⟩ := h
      split at h
      · rename_i hi
        simp only [Option.some.injEq, Prod.mk.injEq] at h
        obtain ⟨rfl, rfl⟩ := h
        have := shows_snd hq i.toNat (by omega)
        rw [show ((i.toNat : Nat) : Int) = i by omega] at this
        exact this
      · simp at h
    · simp at h
  · split at h
    · exact ext0_snd _ _ _ _ _ h
    · exact extN_ok _ _ _ _ _ h
end Go.Sy.Pr0
namespace Go.Sy.Pre
noncomputable abbrev ext1 : FnA := Pr0.ext1
theorem ext1_ok (f : FuncId) (args : List AV) (bx : Bx) (r : AV) (bx' : Bx) (h : ext1 f args bx = some (r, bx')) : Sound Go.Proofs.Try.prog f args bx r bx' := Pr0.ext1_ok f args bx r bx' h
end Go.Sy.Pre
