/-
  Layer 04: disk's functions as the reader takes them, Crash and Flush with them, and what these two do.
-/
import Derived.Test.YtijmfjpcjceejaaPfFls
namespace Go.Sy
open Go.Proofs
open Go.Sy.Pr0 (Wt Ws wEs DB DQ dbA dbA_of dbA_inv shw wl)

def intsA : List AV → Option (List Int)
  | [] => some []
  | .v (.int .i64 n) :: r => (intsA r).map fun l => n :: l
  | _ => none
theorem intsA_inv : ∀ {l : List AV} {ks : List Int}, intsA l = some ks → l = ks.map fun n => .v (.int .i64 n)
  | [], ks, h => by simp only [intsA, Option.some.injEq] at h; subst h; rfl
  | .v (.int .i64 n) :: r, ks, h => by
    simp only [intsA, Option.map_eq_some_iff] at h
    obtain ⟨l, h, rfl⟩ := h
    rw [intsA_inv h]
    rfl
def keepA (bx : Bx) (s : Nat) : AV → Option (List Int)
  | .sl kn l _ => (intsA l).bind fun ks => if ks.length = kn then some ks else none
  | .bsl kb 0 kn 1 => if kb = s then none else (bx[kb]?).bind fun l => (intsA l).bind fun ks => if ks.length = kn then some ks else none
  | .v (.slice none 0 0) => some []
  | _ => none
theorem keepA_ok {bx : Bx} {s : Nat} {keep : AV} {ks : List Int} (h : keepA bx s keep = some ks) (bx' : Bx) (hb : ∀ i, i ≠ s → bx'[i]? = bx[i]?) : Pre.Ints bx' keep ks := by
  have hsl : isSl Try.prog 23 = true ∧ elA Try.prog 23 = some 3 ∧ szA Try.prog 3 = some 1 ∧ agA Try.prog 3 = some false := ⟨by kernel_rfl, by kernel_rfl, by kernel_rfl, by kernel_rfl⟩
  unfold keepA at h
  split at h
  · rename_i kn l f
    rw [Option.bind_eq_some_iff] at h
    obtain ⟨k1, h1, h⟩ := h
    split at h
    · rename_i hl
      simp only [Option.some.injEq] at h
      subst h
      have := intsA_inv h1
      subst this
      subst hl
      refine ⟨by kernel_rfl, fun i hi => ⟨.ip ((k1.map fun n => AV.v (.int .i64 n)).drop i) f, ?_, ?_⟩⟩
      · unfold indexAddrA
        simp only [hsl.1, if_true, hsl.2.1, hsl.2.2.1, Option.bind_some, idxI]
        rw [if_pos ⟨by omega, by omega⟩]
        simp
      · unfold loadA partA
        simp only [hsl.2.2.1, hsl.2.2.2]
        simp [hi]
    · simp at h
  · rename_i kb kn
    split at h
    · simp at h
    · rename_i hne
      rw [Option.bind_eq_some_iff] at h
      obtain ⟨l, h0, h⟩ := h
      rw [Option.bind_eq_some_iff] at h
      obtain ⟨k1, h1, h⟩ := h
      split at h
      · rename_i hl
        simp only [Option.some.injEq] at h
        subst h
        have := intsA_inv h1
        subst this
        subst hl
        refine ⟨by kernel_rfl, fun i hi => ⟨.bp kb i, ?_, ?_⟩⟩
        · unfold indexAddrA
          simp only [hsl.1, if_true, hsl.2.1, hsl.2.2.1, Option.bind_some, idxI]
          rw [if_pos ⟨by omega, by omega⟩]
          simp
        · unfold loadA partA
          simp only [hsl.2.2.1, hsl.2.2.2, hb kb hne, h0]
          simp [hi]
      · simp at h
  · simp only [Option.some.injEq] at h
    subst h
    exact ⟨by kernel_rfl, fun i hi => by simp at hi⟩
  · simp at h
theorem Good_all {bx : Bx} (h : bx.all (fun l => eqCs l l) = true) : Pr0.Good bx := fun l hl => List.all_eq_true.1 h l hl
theorem all_Good {bx : Bx} (h : Pr0.Good bx) : bx.all (fun l => eqCs l l) = true := List.all_eq_true.2 h
/-- behind a crash -/
def crC (ks : List Int) (q : DQ) : List UInt8 := Pre.layS (Pre.crBlk ks q.c) q.n q.c q.bs q.ws q.bs
/-- behind a flush -/
def flC (q : DQ) : List UInt8 := Pre.layS Pre.flBlk q.n q.c q.bs q.ws q.bs
theorem crash_snd {bx : Bx} {d : Nat} {q : DQ} (h : dbA bx d = some q) {keep : AV} {ks : List Int} (hk : keepA bx q.s keep = some ks) :
    Sound Try.prog 12 [.bp d 0, keep] bx (.tup []) ((bx.set q.s (u8l (crC ks q))).set q.m [stH q.cl []]) :=
  have D := dbA_inv h
  Pre.crash_sound ⟨D.hd, D.hs, D.hc, D.hm, D.lt, Pre.DB.wok D, ⟨D.ne.1, D.ne.2.2⟩, fun bx' hb => keepA_ok hk bx' hb⟩
noncomputable def flA (bx : Bx) (d : Nat) : Option (AV × Bx) :=
  (evFn Pr0.cx0 Pr0.ext0 1000 25 [.bp d 0, .v (.int .i64 0)] bx).bind fun r => match r.1 with
    | .v (.int .i64 e) => if bx.length ≤ r.2.length then (if e = 0 then (dbA r.2 d).bind fun q => if r.2.all (fun l => eqCs l l) = true then some (.v (.int .i64 0), (r.2.set q.s (u8l (flC q))).set q.m [stH q.cl []]) else none else some (.v (.int .i64 e), r.2)) else none
    | _ => none
theorem flA_ok {bx bx' : Bx} {d : Nat} {r : AV} (h : flA bx d = some (r, bx')) : Sound Try.prog 10 [.bp d 0] bx r bx' := by
  unfold flA at h
  rw [Option.bind_eq_some_iff] at h
  obtain ⟨⟨r0, b0⟩, hu, h⟩ := h
  simp only at h
  split at h
  · rename_i e
    split at h
    · rename_i hlen
      split at h
      · rename_i he
        subst he
        rw [Option.bind_eq_some_iff] at h
        obtain ⟨q, hq, h⟩ := h
        split at h
        · rename_i hg
          simp only [Option.some.injEq, Prod.mk.injEq] at h
          obtain ⟨rfl, rfl⟩ := h
          exact Pre.flush_ok hu hlen (dbA_inv hq) (Good_all hg)
        · simp at h
      · rename_i he
        simp only [Option.some.injEq, Prod.mk.injEq] at h
        obtain ⟨rfl, rfl⟩ := h
        exact Pre.flush_err he hu hlen
    · simp at h
  · simp at h
noncomputable def extD : FnA := fun f args bx =>
  if f = 12 then (match args with
    | [.bp d 0, keep] => (dbA bx d).bind fun q => (keepA bx q.s keep).map fun ks => (.tup [], (bx.set q.s (u8l (crC ks q))).set q.m [stH q.cl []])
    | _ => none)
  else if f = 10 then (match args with
    | [.bp d 0] => flA bx d
    | _ => none)
  else Pr0.ext1 f args bx
theorem extD_ok (f : FuncId) (args : List AV) (bx : Bx) (r : AV) (bx' : Bx) (h : extD f args bx = some (r, bx')) : Sound Try.prog f args bx r bx' := by
  unfold extD at h
  split at h
  · rename_i hf
    subst hf
    split at h
    · rw [Option.bind_eq_some_iff] at h
      obtain ⟨q, hq, h⟩ := h
      rw [Option.map_eq_some_iff] at h
      obtain ⟨ks, hk, h⟩ := h
      simp only [Prod.mk.injEq] at h
      obtain ⟨rfl, rfl⟩ := h
      exact crash_snd hq hk
    · simp at h
  · split at h
    · rename_i hf
      subst hf
      split at h
      · exact flA_ok h
      · simp at h
    · exact Pr0.ext1_ok f args bx r bx' h
/-- what a sector has behind a crash, a flush -/
theorem layS_bk {f : Nat → List UInt8 → List UInt8} {O : Nat → Prop} {bx : Bx} {d s n m cl : Nat} {p : AV} {z : Int} {c : List UInt8} {bs : List Nat} {ws : Ws} (D : DB O bx d s n m cl p z c bs ws) (hf : ∀ q ∈ ws, (f q.1 q.2.2).length = 64) :
    (Pre.layS f n c bs ws bs).length = n * 64 ∧ ∀ k, k < n → bk (Pre.layS f n c bs ws bs) k = if 0 < (wl ws k).length then f k (wl ws k) else bk c k := by
  obtain ⟨h1, h2⟩ := Pre.layS_len (Pre.DB.wok D) D.hc hf bs
  refine ⟨h2, fun k hk => ?_⟩
  rw [show bk (Pre.layS f n c bs ws bs) k = _ from lay_bk n _ h1 k hk]
  cases hs : Pre.sel bs ws bs k with
  | none =>
    have : wl ws k = [] := by
      unfold wl
      cases hq : ws.find? (fun q => q.1 == k) with
      | none => rfl
      | some q =>
        exfalso
        obtain ⟨g1, g2⟩ := Pr0.find_some hq
        obtain ⟨i, hi⟩ := List.getElem?_of_mem g1
        have hlt := (List.getElem?_eq_some_iff.1 hi).1
        have hb : bs[i]? = some (bs[i]'(by rw [D.ln]; exact hlt)) := List.getElem?_eq_getElem (by rw [D.ln]; exact hlt)
        have := List.find?_eq_none.1 hs _ (Pre.at_zip hb hi)
        simp [g2] at this
    rw [this]
    simp
  | some x =>
    have hp := List.find?_some hs
    have hm := List.mem_of_find?_eq_some hs
    simp only [Bool.and_eq_true, beq_iff_eq] at hp
    obtain ⟨i, _, hi⟩ := Pre.zip_at hm
    have hx := List.mem_of_getElem? hi
    have hw := Pre.wl_of D.kn hx
    rw [hp.1] at hw
    obtain ⟨w1, w2, w3, w4, w5⟩ := D.hw _ hx
    rw [hw, if_pos w4]
/-- a disk of which nothing waits any more -/
theorem DB.empty {O : Nat → Prop} {bx : Bx} {d s n m cl : Nat} {p : AV} {z : Int} {c : List UInt8} {bs : List Nat} {ws : Ws} (D : DB O bx d s n m cl p z c bs ws) {c' : List UInt8} (hc' : c'.length = n * 64) :
    DB O ((bx.set s (u8l c')).set m [stH cl []]) d s n m cl p z c' [] [] := by
  have D' := Pre.DB.stb D hc'
  have hne : ∀ i, i ≠ m → ((bx.set s (u8l c')).set m [stH cl []])[i]? = (bx.set s (u8l c'))[i]? := fun i hi => List.getElem?_set_ne (Ne.symm hi)
  exact ⟨by rw [hne d D.ne.2.1]; exact D'.hd, by rw [hne s (Ne.symm D.ne.2.2)]; exact D'.hs, hc', List.getElem?_set_self D'.mlt, by simp, .nil, rfl, by simp, .nil, .nil, D.ne, D.od⟩
theorem Good.empty {bx : Bx} (h : Pr0.Good bx) (s m cl : Nat) (c' : List UInt8) : Pr0.Good ((bx.set s (u8l c')).set m [stH cl []]) := (h.set (eqCs_u8l _) _).set (Pr0.eqCs_map cl [] []) _
end Go.Sy
