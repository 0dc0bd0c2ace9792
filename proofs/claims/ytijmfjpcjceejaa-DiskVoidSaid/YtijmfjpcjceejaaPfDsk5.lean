/-
  Layer 04: disk.Crash as the reader takes it.
-/
import Derived.Test.YtijmfjpcjceejaaPfDsk4
namespace Go.Sy
open Go.Proofs

def intsA : List AV → Option (List Int)
  | [] => some []
  | .v (.int .i64 n) :: r => (intsA r).map fun l => n :: l
  | _ => none
theorem intsA_inv : ∀ {l : List AV} {ks : List Int}, intsA l = some ks → l = ks.map fun n => .v (.int .i64 n)
  | [], ks, h => by simp only [intsA, Option.some.injEq] at h; subst h; rfl
  | .v (.int .i64 n) :: r, ks, h => by
    simp only [intsA, Option.map_eq_some_iff] at h
    obtain ⟨l, h, rfl⟩ := h
    rw [intsA_inv h]
    rfl
def natsA : List AV → Option (List Nat)
  | [] => some []
  | .v (.int .i64 n) :: r => if 0 ≤ n then (natsA r).map fun l => n.toNat :: l else none
  | _ => none
theorem natsA_inv : ∀ {l : List AV} {bs : List Nat}, natsA l = some bs → l = bs.map fun (n : Nat) => .v (.int .i64 (n : Int))
  | [], bs, h => by simp only [natsA, Option.some.injEq] at h; subst h; rfl
  | .v (.int .i64 n) :: r, bs, h => by
    simp only [natsA] at h
    split at h
    · rename_i hn
      rw [Option.map_eq_some_iff] at h
      obtain ⟨l, h, rfl⟩ := h
      rw [natsA_inv h, List.map_cons]
      congr 3
      omega
    · simp at h
def keepA (bx : Bx) (s : Nat) : AV → Option (List Int)
  | .sl kn l _ => (intsA l).bind fun ks => if ks.length = kn then some ks else none
  | .bsl kb 0 kn 1 => if kb = s then none else (bx[kb]?).bind fun l => (intsA l).bind fun ks => if ks.length = kn then some ks else none
  | .v (.slice none 0 0) => some []
  | _ => none
def wtA (bx : Bx) (s n : Nat) : AV → Option (Nat × Nat × List UInt8)
  | .tup [.v (.int .i64 k), .gs b cnt 64] => (bx[b]?).bind fun l => (byA8 l).bind fun e => if 0 ≤ k ∧ k < (n : Int) ∧ b ≠ s ∧ e.length = cnt * 64 ∧ cnt < 2 ^ 50 then some (k.toNat, b, e) else none
  | _ => none
def wtsA (bx : Bx) (s n : Nat) : List AV → Option (List (Nat × Nat × List UInt8))
  | [] => some []
  | x :: r => (wtA bx s n x).bind fun q => (wtsA bx s n r).map fun l => q :: l
theorem wtA_inv {bx : Bx} {s n : Nat} {x : AV} {q : Nat × Nat × List UInt8} (h : wtA bx s n x = some q) :
    x = .tup [.v (.int .i64 (q.1 : Int)), .gs q.2.1 (q.2.2.length / 64) 64] ∧ q.1 < n ∧ q.2.1 ≠ s ∧ bx[q.2.1]? = some (u8l q.2.2) ∧ q.2.2.length % 64 = 0 ∧ q.2.2.length < 2 ^ 60 := by
  unfold wtA at h
  split at h
  · rename_i k b cnt
    rw [Option.bind_eq_some_iff] at h
    obtain ⟨l, hl, h⟩ := h
    rw [Option.bind_eq_some_iff] at h
    obtain ⟨e, he, h⟩ := h
    split at h
    · rename_i hc
      obtain ⟨c1, c2, c3, c4, c5⟩ := hc
      simp only [Option.some.injEq] at h
      subst h
      have := byA8_inv he
      subst this
      refine ⟨?_, by show k.toNat < n; omega, c3, hl, by show e.length % 64 = 0; omega, by show e.length < 2 ^ 60; omega⟩
      show _ = AV.tup [.v (.int .i64 (k.toNat : Int)), .gs b (e.length / 64) 64]
      rw [show e.length / 64 = cnt by omega, show (k.toNat : Int) = k by omega]
    · simp at h
  · simp at h
theorem wtsA_inv {bx : Bx} {s n : Nat} : ∀ {l : List AV} {ws : List (Nat × Nat × List UInt8)}, wtsA bx s n l = some ws →
    l = Pre.wEs ws ∧ ∀ q ∈ ws, q.1 < n ∧ q.2.1 ≠ s ∧ bx[q.2.1]? = some (u8l q.2.2) ∧ q.2.2.length % 64 = 0 ∧ q.2.2.length < 2 ^ 60
  | [], ws, h => by simp only [wtsA, Option.some.injEq] at h; subst h; exact ⟨rfl, by simp⟩
  | x :: r, ws, h => by
    simp only [wtsA, Option.bind_eq_some_iff, Option.map_eq_some_iff] at h
    obtain ⟨q, hq, l, hl, rfl⟩ := h
    obtain ⟨g1, g2⟩ := wtA_inv hq
    obtain ⟨g3, g4⟩ := wtsA_inv hl
    refine ⟨?_, fun p hp => ?_⟩
    · rw [g1, g3]
      rfl
    · rcases List.mem_cons.1 hp with rfl | hp
      · exact g2
      · exact g4 p hp
/-- a disk's boxes: where its stable bytes lie, how many sectors, its map's box, clock, the bytes, the stamps, what waits -/
def dskA (bx : Bx) (d : Nat) : Option (Nat × Nat × Nat × Nat × List UInt8 × List Nat × List (Nat × Nat × List UInt8)) :=
  match bx[d]? with
  | some [_, .bsl s 0 n 64, .mp m, _] => (bx[s]?).bind fun cs => (byA8 cs).bind fun c => match bx[m]? with
    | some (.tup (.v (.int .i64 cl) :: st) :: es) => (natsA st).bind fun bs => (wtsA bx s n es).bind fun ws =>
      if d ≠ s ∧ m ≠ s ∧ c.length = n * 64 ∧ 0 ≤ cl ∧ (∀ b ∈ bs, (b : Int) < cl) ∧ bs.Nodup ∧ bs.length = ws.length ∧ (ws.map (·.1)).Nodup then some (s, n, m, cl.toNat, c, bs, ws) else none
    | _ => none
  | _ => none
def crA (bx : Bx) (d : Nat) (keep : AV) : Option Bx :=
  (dskA bx d).bind fun q => (keepA bx q.1 keep).map fun ks => (bx.set q.1 (u8l (Pre.layS (Pre.crBlk ks q.2.2.2.2.1) q.2.1 q.2.2.2.2.1 q.2.2.2.2.2.1 q.2.2.2.2.2.2 q.2.2.2.2.2.1))).set q.2.2.1 [stH q.2.2.2.1 []]
theorem keepA_ok {bx : Bx} {s : Nat} {keep : AV} {ks : List Int} (h : keepA bx s keep = some ks) (bx' : Bx) (hb : ∀ i, i ≠ s → bx'[i]? = bx[i]?) : Pre.Ints bx' keep ks := by
  have hsl : isSl Try.prog 23 = true ∧ elA Try.prog 23 = some 3 ∧ szA Try.prog 3 = some 1 ∧ agA Try.prog 3 = some false := ⟨by kernel_rfl, by kernel_rfl, by kernel_rfl, by kernel_rfl⟩
  unfold keepA at h
  split at h
  · rename_i kn l f
    rw [Option.bind_eq_some_iff] at h
    obtain ⟨k1, h1, h⟩ := h
    split at h
    · rename_i hl
      simp only [Option.some.injEq] at h
      subst h
      have := intsA_inv h1
      subst this
      subst hl
      refine ⟨by kernel_rfl, fun i hi => ⟨.ip ((k1.map fun n => AV.v (.int .i64 n)).drop i) f, ?_, ?_⟩⟩
      · unfold indexAddrA
        simp only [hsl.1, if_true, hsl.2.1, hsl.2.2.1, Option.bind_some, idxI]
        rw [if_pos ⟨by omega, by omega⟩]
        simp
      · unfold loadA partA
        simp only [hsl.2.2.1, hsl.2.2.2]
        simp [hi]
    · simp at h
  · rename_i kb kn
    split at h
    · simp at h
    · rename_i hne
      rw [Option.bind_eq_some_iff] at h
      obtain ⟨l, h0, h⟩ := h
      rw [Option.bind_eq_some_iff] at h
      obtain ⟨k1, h1, h⟩ := h
      split at h
      · rename_i hl
        simp only [Option.some.injEq] at h
        subst h
        have := intsA_inv h1
        subst this
        subst hl
        refine ⟨by kernel_rfl, fun i hi => ⟨.bp kb i, ?_, ?_⟩⟩
        · unfold indexAddrA
          simp only [hsl.1, if_true, hsl.2.1, hsl.2.2.1, Option.bind_some, idxI]
          rw [if_pos ⟨by omega, by omega⟩]
          simp
        · unfold loadA partA
          simp only [hsl.2.2.1, hsl.2.2.2, hb kb hne, h0]
          simp [hi]
      · simp at h
  · simp only [Option.some.injEq] at h
    subst h
    exact ⟨by kernel_rfl, fun i hi => by simp at hi⟩
  · simp at h
theorem crA_ok {bx bx' : Bx} {d : Nat} {keep : AV} (h : crA bx d keep = some bx') : Sound Try.prog 12 [.bp d 0, keep] bx (.tup []) bx' := by
  unfold crA dskA at h
  rw [Option.bind_eq_some_iff] at h
  obtain ⟨q, h, hk⟩ := h
  rw [Option.map_eq_some_iff] at hk
  obtain ⟨ks, hk, rfl⟩ := hk
  split at h
  case h_2 => simp at h
  rename_i p s n m wv hd
  rw [Option.bind_eq_some_iff] at h
  obtain ⟨cs, hs, h⟩ := h
  rw [Option.bind_eq_some_iff] at h
  obtain ⟨c, hc, h⟩ := h
  split at h
  case h_2 => simp at h
  rename_i cl st es hm
  rw [Option.bind_eq_some_iff] at h
  obtain ⟨bs, hbs, h⟩ := h
  rw [Option.bind_eq_some_iff] at h
  obtain ⟨ws, hws, h⟩ := h
  split at h
  case isFalse => simp at h
  rename_i hcond
  obtain ⟨c1, c2, c3, c4, c5, c6, c7, c8⟩ := hcond
  simp only [Option.some.injEq] at h
  subst h
  have := byA8_inv hc
  subst this
  have := natsA_inv hbs
  subst this
  obtain ⟨rfl, hw⟩ := wtsA_inv hws
  obtain ⟨cl, rfl⟩ : ∃ x : Nat, cl = x := ⟨cl.toNat, by omega⟩
  simp only [Int.toNat_natCast]
  exact Pre.crash_sound ⟨hd, hs, c3, hm, fun b hb => by have := c5 b hb; omega, ⟨c6, c7, hw, c8⟩, ⟨c1, c2⟩, fun bx' hb => keepA_ok hk bx' hb⟩
noncomputable def extD : FnA := fun f args bx =>
  if f = 12 then (match args with
    | [.bp d 0, keep] => (crA bx d keep).map fun b => (.tup [], b)
    | _ => none)
  else extC f args bx
theorem extD_ok (f : FuncId) (args : List AV) (bx : Bx) (r : AV) (bx' : Bx) (h : extD f args bx = some (r, bx')) : Sound Try.prog f args bx r bx' := by
  unfold extD at h
  split at h
  · rename_i hf
    subst hf
    split at h
    · rw [Option.map_eq_some_iff] at h
      obtain ⟨b, hb, h⟩ := h
      simp only [Prod.mk.injEq] at h
      obtain ⟨rfl, rfl⟩ := h
      exact crA_ok hb
    · simp at h
  · exact extC_ok f args bx r bx' h
end Go.Sy
