/-
  Layer 04: what disk's functions do to a disk's boxes, whatever else lies there.
-/
import Derived.Test.YtijmfjpcjceejaaPFn
import Derived.Test.YtijmfjpcjceejaaPfBlk
namespace Go.Sy.Pr0
open Go.Proofs

/-- a sector that waits: its number, the box of its blocks, their bytes -/
abbrev Wt := Nat × Nat × List UInt8
abbrev Ws := List Wt
def wEs (ws : Ws) : List AV := ws.map fun q => .tup [.v (.int .i64 (q.1 : Int)), .gs q.2.1 (q.2.2.length / 64) 64]
/-- what waits for a sector -/
def wl (ws : Ws) (k : Nat) : List UInt8 := match ws.find? (fun q => q.1 == k) with
  | some q => q.2.2
  | none => []
abbrev nilP : AV := .v (.pointer none)
/-- what a sector shows -/
def shw (c : List UInt8) (ws : Ws) (k : Nat) : List UInt8 := if 0 < (wl ws k).length then bk (wl ws k) ((wl ws k).length / 64 - 1) else bk c k

theorem call_k {E : FnA} {md : FuncId → Md} {f : FuncId} (h : md f = .objK) (bx : Bx) (args : List AV) : callA E md bx f args = E f args bx := by
  unfold callA
  simp only [h]
theorem dec (a b : Nat) : decide ((a : Int) < (b : Int)) = decide (a < b) := by
  by_cases h : a < b
  · rw [decide_eq_true h, decide_eq_true (by omega)]
  · rw [decide_eq_false h, decide_eq_false (by omega)]
theorem may_ev (k : Nat) (p j w : AV) (cs : List AV) (n : Nat) (i : Int) : cf (evFn cx0 ext0 (k + 1)) 27 [.ip [p, .sl n cs true, j, w] true, .v (.int .i64 i)] = some (.v (.int .i64 (if 0 ≤ i ∧ i < (n : Int) then 0 else 2))) := by
  unfold cf
  rw [E_disk_Disk_may]
  refine ends_cf (P := Try.prog) ?_
  unfold F_disk_Disk_may
  have pn : binA Try.prog .eql 25 (.ip [p, .sl n cs true, j, w] true) (.v (.pointer none)) = some (.v (.bool false)) := by kernel_rfl
  have nl : nilA (.ip [p, .sl n cs true, j, w] true) = some (.ip [p, .sl n cs true, j, w] true) := rfl
  have fa : fieldAddrA Try.prog 63 (.ip [p, .sl n cs true, j, w] true) 1 = some (.ip [.sl n cs true, j, w] true) := by kernel_rfl
  have ld : loadA Try.prog 35 [] (.ip [.sl n cs true, j, w] true) = some (.sl n cs true) := by kernel_rfl
  have ln : lenA Try.prog 35 (.sl n cs true) = some (.v (.int .i64 n)) := by kernel_rfl
  by_cases h0 : i < 0
  · have g0 : decide (i < 0) = true := decide_eq_true h0
    rw [if_neg (by omega)]
    have stq := (And.intro (pn) (g0))
    repeat first
      | ((with_reducible apply ends_bind); case h => first | (simp only [stp, stq]; first | done | rfl) | rfl)
      | ((with_reducible apply ends_t); case h => first | rfl | (simp only [stp, stq]; done))
      | ((with_reducible apply ends_f); case h => first | rfl | (simp only [stp, stq]; done))
    exact ends_some ⟨.inl rfl, _, rfl, rfl⟩
  · have g0 : decide (i < 0) = false := decide_eq_false h0
    by_cases h1 : (n : Int) ≤ i
    · have g1 : decide ((n : Int) ≤ i) = true := decide_eq_true h1
      rw [if_neg (by omega)]
      have stq := (And.intro (pn) (And.intro (g0) (And.intro (nl) (And.intro (fa) (And.intro (ld) (And.intro (ln) (g1)))))))
      repeat first
        | ((with_reducible apply ends_bind); case h => first | (simp only [stp, stq]; first | done | rfl) | rfl)
        | ((with_reducible apply ends_t); case h => first | rfl | (simp only [stp, stq]; done))
        | ((with_reducible apply ends_f); case h => first | rfl | (simp only [stp, stq]; done))
      exact ends_some ⟨.inl rfl, _, rfl, rfl⟩
    · have g1 : decide ((n : Int) ≤ i) = false := decide_eq_false h1
      rw [if_pos (by omega)]
      have stq := (And.intro (pn) (And.intro (g0) (And.intro (nl) (And.intro (fa) (And.intro (ld) (And.intro (ln) (g1)))))))
      repeat first
        | ((with_reducible apply ends_bind); case h => first | (simp only [stp, stq]; first | done | rfl) | rfl)
        | ((with_reducible apply ends_t); case h => first | rfl | (simp only [stp, stq]; done))
        | ((with_reducible apply ends_f); case h => first | rfl | (simp only [stp, stq]; done))
      exact ends_some ⟨.inl rfl, _, rfl, rfl⟩
/-- a disk's box, and whether a sector is there -/
theorem mayc (k : Nat) {md : FuncId → Md} (hm : md 27 = .frozen) {bx : Bx} {d s n m : Nat} {p w : AV} (hd : bx[d]? = some [p, .bsl s 0 n 64, .mp m, w]) (i : Int) (hs : s < bx.length) :
    callA (evFn cx0 ext0 (k + 1)) md bx 27 [.bp d 0, .v (.int .i64 i)] = some (.v (.int .i64 (if 0 ≤ i ∧ i < (n : Int) then 0 else 2)), bx) := by
  rw [callA_frozen hm]
  have h1 : ([.bp d 0, .v (.int .i64 i)] : List AV).map (frz bx true 6) = [.ip [frz bx true 5 p, .sl n ((((bx[s]'hs).drop 0).take (n * 64)).map (frz bx true 4)) true, .junk, frz bx true 5 w] true, .v (.int .i64 i)] := by
    simp only [List.map_cons, List.map_nil, frz, hd, List.drop_zero, List.getElem?_eq_getElem hs]
  rw [h1, may_ev]
  rfl
theorem use_ev (k : Nat) {bx : Bx} {d s n m : Nat} {w : AV} (hd : bx[d]? = some [nilP, .bsl s 0 n 64, .mp m, w]) (i : Int) (hs : s < bx.length) :
    evFn cx0 ext0 (k + 2) 25 [.bp d 0, .v (.int .i64 i)] bx = some (.v (.int .i64 (if 0 ≤ i ∧ i < (n : Int) then 0 else 2)), bx) := by
  rw [E_disk_Disk_use]
  refine ends_fin (P := Try.prog) ?_
  unfold F_disk_Disk_use
  have hm := mayc k (md := md_disk_Disk_use) rfl hd i hs
  have nl : nilA (.bp d 0) = some (.bp d 0) := rfl
  have fa : fieldAddrA Try.prog 63 (.bp d 0) 0 = some (.bp d 0) := by kernel_rfl
  have ld : loadA Try.prog 47 bx (.bp d 0) = some nilP := by
    have h1 : szA Try.prog 47 = some 1 ∧ agA Try.prog 47 = some false := ⟨by kernel_rfl, by kernel_rfl⟩
    simp only [loadA, hd, Option.bind_some, partA, h1.1, h1.2]
    rfl
  have us : callA (evFn cx0 ext0 (k + 1)) md_disk_Disk_use bx 40 [nilP] = some (.v (.int .i64 0), bx) := by
    rw [call_k rfl]
    rfl
  by_cases h : 0 ≤ i ∧ i < (n : Int)
  · rw [if_pos h] at hm ⊢
    have g : ((0 : Int) != 0) = false := rfl
    have stq := (And.intro (hm) (And.intro (g) (And.intro (nl) (And.intro (fa) (And.intro (ld) (us))))))
    repeat first
      | ((with_reducible apply ends_bind); case h => first | (simp only [stp, stq]; first | done | rfl) | rfl)
      | ((with_reducible apply ends_t); case h => first | rfl | (simp only [stp, stq]; done))
      | ((with_reducible apply ends_f); case h => first | rfl | (simp only [stp, stq]; done))
    exact ends_some ⟨.inl rfl, _, rfl, rfl⟩
  · rw [if_neg h] at hm ⊢
    have g : ((2 : Int) != 0) = true := rfl
    have stq := (And.intro (hm) (g))
    repeat first
      | ((with_reducible apply ends_bind); case h => first | (simp only [stp, stq]; first | done | rfl) | rfl)
      | ((with_reducible apply ends_t); case h => first | rfl | (simp only [stp, stq]; done))
      | ((with_reducible apply ends_f); case h => first | rfl | (simp only [stp, stq]; done))
    exact ends_some ⟨.inl rfl, _, rfl, rfl⟩
theorem mp_w : mpT Try.prog 61 = some (3, 35) ∧ inA Try.prog 3 = some .i64 := ⟨by kernel_rfl, by kernel_rfl⟩
theorem zv_w : zvA Try.prog 35 = some (.v (.slice none 0 0)) := by kernel_rfl
theorem find_w (k : Nat) : ∀ ws : Ws, findL .i64 (k : Int) (wEs ws) = some ((ws.find? (fun q => q.1 == k)).map fun q => .gs q.2.1 (q.2.2.length / 64) 64)
  | [] => rfl
  | q :: ws => by
    show findL .i64 (k : Int) (.tup [.v (.int .i64 (q.1 : Int)), .gs q.2.1 (q.2.2.length / 64) 64] :: wEs ws) = _
    simp only [findL, if_true]
    rw [List.find?_cons]
    by_cases h : q.1 = k
    · have h1 : ((k : Int) == (q.1 : Int)) = true := by simp [h]
      have h2 : (q.1 == k) = true := by simp [h]
      simp only [h1, h2, if_true, Option.map_some]
    · have h1 : ((k : Int) == (q.1 : Int)) = false := by simp; omega
      have h2 : (q.1 == k) = false := by simpa using h
      simp only [h1, h2, Bool.false_eq_true, if_false]
      exact find_w k ws
theorem look_w {bx : Bx} {m cl : Nat} {bs : List Nat} {ws : Ws} (hm : bx[m]? = some (stH cl bs :: wEs ws)) (k : Nat) :
    lookA Try.prog bx 61 (.mp m) (.v (.int .i64 (k : Int))) false = some (match ws.find? (fun q => q.1 == k) with | some q => .gs q.2.1 (q.2.2.length / 64) 64 | none => .v (.slice none 0 0)) := by
  unfold lookA
  simp only [mp_w.1, Option.bind_some, mp_w.2, if_true, hm, List.tail_cons, find_w k ws]
  cases ws.find? (fun q => q.1 == k) with
  | none => simp only [Option.map_none, zv_w, Option.map_some]; rfl
  | some q => rfl
/-- a disk's boxes -/
structure DB (O : Nat → Prop) (bx : Bx) (d s n m cl : Nat) (p : AV) (z : Int) (c : List UInt8) (bs : List Nat) (ws : Ws) : Prop where
  hd : bx[d]? = some [p, .bsl s 0 n 64, .mp m, .v (.int .i64 z)]
  hs : bx[s]? = some (u8l c)
  hc : c.length = n * 64
  hm : bx[m]? = some (stH cl bs :: wEs ws)
  lt : ∀ b ∈ bs, b < cl
  nd : bs.Nodup
  ln : bs.length = ws.length
  hw : ∀ q ∈ ws, q.1 < n ∧ bx[q.2.1]? = some (u8l q.2.2) ∧ q.2.2.length % 64 = 0 ∧ 0 < q.2.2.length ∧ q.2.2.length < 2 ^ 32 ∧ O q.2.1 ∧ q.2.1 ≠ d ∧ q.2.1 ≠ s ∧ q.2.1 ≠ m
  kn : (ws.map (·.1)).Nodup
  bn : (ws.map (·.2.1)).Nodup
  ne : d ≠ s ∧ d ≠ m ∧ m ≠ s
  od : O d ∧ O s ∧ O m
theorem DB.slt {O : Nat → Prop} {bx : Bx} {d s n m cl : Nat} {p : AV} {z : Int} {c : List UInt8} {bs : List Nat} {ws : Ws} (D : DB O bx d s n m cl p z c bs ws) : s < bx.length := (List.getElem?_eq_some_iff.1 D.hs).1
theorem DB.dlt {O : Nat → Prop} {bx : Bx} {d s n m cl : Nat} {p : AV} {z : Int} {c : List UInt8} {bs : List Nat} {ws : Ws} (D : DB O bx d s n m cl p z c bs ws) : d < bx.length := (List.getElem?_eq_some_iff.1 D.hd).1
theorem DB.mlt {O : Nat → Prop} {bx : Bx} {d s n m cl : Nat} {p : AV} {z : Int} {c : List UInt8} {bs : List Nat} {ws : Ws} (D : DB O bx d s n m cl p z c bs ws) : m < bx.length := (List.getElem?_eq_some_iff.1 D.hm).1
theorem fa_d (d : Nat) : fieldAddrA Try.prog 63 (.bp d 0) 1 = some (.bp d 1) ∧ fieldAddrA Try.prog 63 (.bp d 0) 2 = some (.bp d 2) ∧ fieldAddrA Try.prog 63 (.bp d 0) 0 = some (.bp d 0) ∧ fieldAddrA Try.prog 63 (.bp d 0) 3 = some (.bp d 3) := ⟨by kernel_rfl, by kernel_rfl, by kernel_rfl, by kernel_rfl⟩
theorem ld_d1 {bx : Bx} {d : Nat} {p s m w : AV} (h : bx[d]? = some [p, s, m, w]) : loadA Try.prog 35 bx (.bp d 1) = some s := by
  have h1 : szA Try.prog 35 = some 1 ∧ agA Try.prog 35 = some false := ⟨by kernel_rfl, by kernel_rfl⟩
  simp only [loadA, h, Option.bind_some, partA, h1.1, h1.2]
  rfl
theorem ld_d2 {bx : Bx} {d : Nat} {p s m w : AV} (h : bx[d]? = some [p, s, m, w]) : loadA Try.prog 61 bx (.bp d 2) = some m := by
  have h1 : szA Try.prog 61 = some 1 ∧ agA Try.prog 61 = some false := ⟨by kernel_rfl, by kernel_rfl⟩
  simp only [loadA, h, Option.bind_some, partA, h1.1, h1.2]
  rfl
theorem ld_d3 {bx : Bx} {d : Nat} {p s m w : AV} (h : bx[d]? = some [p, s, m, w]) : loadA Try.prog 3 bx (.bp d 3) = some w := by
  have h1 : szA Try.prog 3 = some 1 ∧ agA Try.prog 3 = some false := ⟨by kernel_rfl, by kernel_rfl⟩
  simp only [loadA, h, Option.bind_some, partA, h1.1, h1.2]
  rfl
theorem st_d3 {bx : Bx} {d : Nat} {p s m : AV} {z z' : Int} (h : bx[d]? = some [p, s, m, .v (.int .i64 z)]) : stA Try.prog 3 bx (.bp d 3) (.v (.int .i64 z')) = some (.v undef, bx.set d [p, s, m, .v (.int .i64 z')]) := by
  have h1 : szA Try.prog 3 = some 1 := by kernel_rfl
  unfold stA storeA
  simp only [h1, h, Option.bind_some]
  rfl
theorem find_some {ws : Ws} {k : Nat} {q : Wt} (h : ws.find? (fun q => q.1 == k) = some q) : q ∈ ws ∧ q.1 = k := ⟨List.mem_of_find?_eq_some h, by simpa using List.find?_some h⟩
theorem shows_ev (k : Nat) {O : Nat → Prop} {bx : Bx} {d s n m cl : Nat} {p : AV} {z : Int} {c : List UInt8} {bs : List Nat} {ws : Ws} (D : DB O bx d s n m cl p z c bs ws) (i : Nat) (hi : i < n) :
    evFn cx0 ext0 (k + 1) 26 [.bp d 0, .v (.int .i64 i)] bx = some (.agg (u8l (shw c ws i)), bx ++ [u8l (shw c ws i)]) := by
  rw [E_disk_Disk_shows]
  refine ends_fin (P := Try.prog) ?_
  unfold F_disk_Disk_shows
  obtain ⟨bx1, hb1⟩ : ∃ x, x = bx ++ [u8l (List.replicate 64 0)] := ⟨_, rfl⟩
  have al : allocA Try.prog bx 32 = some (.bp bx.length 0, bx1) := by rw [hb1]; exact al_a hB bx
  have nl : nilA (.bp d 0) = some (.bp d 0) := rfl
  have fa := fa_d d
  have hold : ∀ {i : Nat} {l : List AV}, bx[i]? = some l → bx1[i]? = some l := fun {i l} h => by rw [hb1, List.getElem?_append_left (List.getElem?_eq_some_iff.1 h).1]; exact h
  have hnew : bx1[bx.length]? = some (u8l (List.replicate 64 0)) := by rw [hb1]; simp
  have l2 := ld_d2 (hold D.hd)
  have lk := look_w (hold D.hm) i
  have stn : ∀ b : List UInt8, b.length = 64 → stA Try.prog 32 bx1 (.bp bx.length 0) (.agg (u8l b)) = some (.v undef, bx ++ [u8l b]) := by
    intro b hb
    have := st_a hB hnew (by simp) hb
    rw [this, hb1]
    simp
  have fin : ∀ b : List UInt8, b.length = 64 → loadA Try.prog 32 (bx ++ [u8l b]) (.bp bx.length 0) = some (.agg (u8l b)) := fun b hb => ld_a hB (by simp) hb
  cases hf : ws.find? (fun q => q.1 == i) with
  | some q =>
    rw [hf] at lk
    obtain ⟨hq, hk⟩ := find_some hf
    obtain ⟨w1, w2, w3, w4, w5, w6⟩ := D.hw q hq
    have hwl : wl ws i = q.2.2 := by unfold wl; rw [hf]
    have hsh : shw c ws i = bk q.2.2 (q.2.2.length / 64 - 1) := by unfold shw; rw [hwl, if_pos w4]
    have ln := ln_gs q.2.1 (q.2.2.length / 64) 64
    have g1 : decide ((0 : Int) < ((q.2.2.length / 64 : Nat) : Int)) = true := decide_eq_true (by omega)
    have ew : IntKind.i64.wrap (((q.2.2.length / 64 : Nat) : Int) - 1) = ((q.2.2.length / 64 - 1 : Nat) : Int) := by rw [wrap64]; omega
    have ix := ix_gs q.2.1 (q.2.2.length / 64) (q.2.2.length / 64 - 1) .i64 (by omega)
    have ld := ld_gs (j := q.2.2.length / 64 - 1) (k := q.2.2.length / 64) (hold w2) (by omega) (by omega)
    have hl : (bk q.2.2 (q.2.2.length / 64 - 1)).length = 64 := bk_len (n := q.2.2.length / 64) (by omega) (by omega)
    have st := stn _ hl
    rw [hsh]
    have stq := (And.intro (al) (And.intro (nl) (And.intro (fa) (And.intro (l2) (And.intro (lk) (And.intro (ln) (And.intro (g1) (And.intro (ew) (And.intro (ix) (And.intro (ld) (st)))))))))))
    repeat first
      | ((with_reducible apply ends_bind); case h => first | (simp only [stp, stq]; first | done | rfl) | rfl)
      | ((with_reducible apply ends_t); case h => first | rfl | (simp only [stp, stq]; done))
      | ((with_reducible apply ends_f); case h => first | rfl | (simp only [stp, stq]; done))
    exact ends_some ⟨.inl rfl, [.agg (u8l (bk q.2.2 (q.2.2.length / 64 - 1)))], by simp only [resL, get]; exact congrArg (Option.bind · _) (fin _ hl), rfl⟩
  | none =>
    rw [hf] at lk
    have hwl : wl ws i = [] := by unfold wl; rw [hf]
    have hsh : shw c ws i = bk c i := by unfold shw; rw [hwl, if_neg (by simp)]
    have ln : lenA Try.prog 35 (.v (.slice none 0 0)) = some (.v (.int .i64 0)) := by kernel_rfl
    have g1 : decide ((0 : Int) < 0) = false := rfl
    have l1 := ld_d1 (hold D.hd)
    have ix := ix_bb s n i .i64 hi
    have ld := ld_bb (j := i) (hold D.hs) D.hc hi
    have hl : (bk c i).length = 64 := bk_len hi D.hc
    have st := stn _ hl
    rw [hsh]
    have stq := (And.intro (al) (And.intro (nl) (And.intro (fa) (And.intro (l2) (And.intro (lk) (And.intro (ln) (And.intro (g1) (And.intro (l1) (And.intro (ix) (And.intro (ld) (st)))))))))))
    repeat first
      | ((with_reducible apply ends_bind); case h => first | (simp only [stp, stq]; first | done | rfl) | rfl)
      | ((with_reducible apply ends_t); case h => first | rfl | (simp only [stp, stq]; done))
      | ((with_reducible apply ends_f); case h => first | rfl | (simp only [stp, stq]; done))
    exact ends_some ⟨.inl rfl, [.agg (u8l (bk c i))], by simp only [resL, get]; exact congrArg (Option.bind · _) (fin _ hl), rfl⟩
end Go.Sy.Pr0
