/-
  Layer 04: what disk.Crash does to a disk's boxes: one round.
-/
import Derived.Test.YtijmfjpcjceejaaPfBlk
import Derived.Test.YtijmfjpcjceejaaPPc
namespace Go.Sy.Pre
open Go.Proofs

/-- how many of a sector's blocks come about -/
def keepN (ks : List Int) (k cnt : Nat) : Nat := if k < ks.length then (min (max (ks.getD k 0) 0) (cnt : Int)).toNat else 0
theorem keepN_le (ks : List Int) (k cnt : Nat) : keepN ks k cnt ≤ cnt := by unfold keepN; split <;> omega
/-- what a sector has behind a crash -/
def crBlk (ks : List Int) (c : List UInt8) (k : Nat) (e : List UInt8) : List UInt8 := if 0 < keepN ks k (e.length / 64) then bk e (keepN ks k (e.length / 64) - 1) else bk c k
/-- a list of whole numbers that is read -/
structure Ints (bx : Bx) (x : AV) (ks : List Int) : Prop where
  ln : lenA Try.prog 23 x = some (.v (.int .i64 ks.length))
  ix : ∀ i (h : i < ks.length), ∃ a, indexAddrA Try.prog 23 x (.v (.int .i64 i)) = some a ∧ loadA Try.prog 3 bx a = some (.v (.int .i64 ks[i]))
theorem fa_d (d : Nat) : fieldAddrA Try.prog 63 (.bp d 0) 1 = some (.bp d 1) ∧ fieldAddrA Try.prog 63 (.bp d 0) 2 = some (.bp d 2) ∧ fieldAddrA Try.prog 63 (.bp d 0) 0 = some (.bp d 0) ∧ fieldAddrA Try.prog 63 (.bp d 0) 3 = some (.bp d 3) := ⟨by kernel_rfl, by kernel_rfl, by kernel_rfl, by kernel_rfl⟩
theorem ld_d1 {bx : Bx} {d : Nat} {p s m w : AV} (h : bx[d]? = some [p, s, m, w]) : loadA Try.prog 35 bx (.bp d 1) = some s := by
  have h1 : szA Try.prog 35 = some 1 ∧ agA Try.prog 35 = some false := ⟨by kernel_rfl, by kernel_rfl⟩
  simp only [loadA, h, Option.bind_some, partA, h1.1, h1.2]
  rfl
theorem ld_d2 {bx : Bx} {d : Nat} {p s m w : AV} (h : bx[d]? = some [p, s, m, w]) : loadA Try.prog 61 bx (.bp d 2) = some m := by
  have h1 : szA Try.prog 61 = some 1 ∧ agA Try.prog 61 = some false := ⟨by kernel_rfl, by kernel_rfl⟩
  simp only [loadA, h, Option.bind_some, partA, h1.1, h1.2]
  rfl
theorem crash_round {k0 n n0 : Nat} {bx : Bx} {d s sn : Nat} {p m w : AV} (hd : bx[d]? = some [p, .bsl s 0 sn 64, m, w]) {c : List UInt8} (hs : bx[s]? = some (u8l c)) (hc : c.length = sn * 64) {keep : AV} {ks : List Int} (hk : Ints bx keep ks)
    (k : Nat) (hkn : k < sn) (b cnt : Nat) (e : List UInt8) (hb : bx[b]? = some (u8l e)) (he : e.length = cnt * 64) (hcnt : cnt < 2 ^ 62) (itv : AV) :
    Ends (F_crR4 (evFn cx0 ext0 k0) n n0 (.bp d 0) keep (.v (.int .i64 k)) (.gs b cnt 64) itv bx) fun ex s' => ex = .normal ∧ s'.bx = (if 0 < keepN ks k cnt then bx.set s (u8l (spl c k (bk e (keepN ks k cnt - 1)))) else bx) ∧
      get s'.env 0 = .bp d 0 ∧ get s'.env 1 = keep ∧ get s'.env 13 = itv := by
  have hln := hk.ln
  have fa := fa_d d
  have ln := ln_gs b cnt 64
  have nl : ∀ d : Nat, nilA (.bp d 0) = some (.bp d 0) := fun _ => rfl
  have l1 := ld_d1 hd
  have ixs := ix_bb s sn k .i64 hkn
  unfold F_crR4
  by_cases h1 : k < ks.length
  · have g1 : decide ((k : Int) < (ks.length : Int)) = true := decide_eq_true (by omega)
    obtain ⟨a, ha, hl⟩ := hk.ix k h1
    have hkk : ks.getD k 0 = ks[k] := by simp [h1]
    have mn : minL false (.v (.int .i64 (max ks[k] 0))) [.v (.int .i64 cnt)] = some (.v (.int .i64 (keepN ks k cnt : Nat))) := by
      rw [min_v]
      unfold keepN
      rw [if_pos h1, hkk]
      congr 3
      omega
    have hle := keepN_le ks k cnt
    generalize keepN ks k cnt = j at *
    by_cases h2 : 0 < j
    · have g2 : decide ((0 : Int) < (j : Int)) = true := decide_eq_true (by omega)
      have ew : IntKind.i64.wrap ((j : Int) - 1) = ((j - 1 : Nat) : Int) := by rw [wrap64]; omega
      have ixb := ix_gs b cnt (j - 1) .i64 (by omega)
      have ldb := ld_gs (j := j - 1) hb he (by omega)
      have stb := st_bb hs hc hkn (bk_len (i := j - 1) (by omega) he)
      rw [if_pos h2]
      have stq := (And.intro (hln) (And.intro (g1) (And.intro (ha) (And.intro (hl) (And.intro (ln) (And.intro (mn) (And.intro (g2) (And.intro (nl) (And.intro (fa) (And.intro (l1) (And.intro (ew) (And.intro (ixb) (And.intro (ldb) (And.intro (ixs) (stb)))))))))))))))
      repeat first
        | ((with_reducible apply ends_bind); case h => first | (simp only [stp, stq]; first | done | rfl) | rfl)
        | ((with_reducible apply ends_t); case h => first | rfl | (simp only [stp, stq]; done))
        | ((with_reducible apply ends_f); case h => first | rfl | (simp only [stp, stq]; done))
      exact ends_some ⟨rfl, rfl, rfl, rfl, rfl⟩
    · have g2 : decide ((0 : Int) < (j : Int)) = false := decide_eq_false (by omega)
      rw [if_neg h2]
      have stq := (And.intro (hln) (And.intro (g1) (And.intro (ha) (And.intro (hl) (And.intro (ln) (And.intro (mn) (g2)))))))
      repeat first
        | ((with_reducible apply ends_bind); case h => first | (simp only [stp, stq]; first | done | rfl) | rfl)
        | ((with_reducible apply ends_t); case h => first | rfl | (simp only [stp, stq]; done))
        | ((with_reducible apply ends_f); case h => first | rfl | (simp only [stp, stq]; done))
      exact ends_some ⟨rfl, rfl, rfl, rfl, rfl⟩
  · have g1 : decide ((k : Int) < (ks.length : Int)) = false := decide_eq_false (by omega)
    have hj : keepN ks k cnt = 0 := by unfold keepN; rw [if_neg h1]
    have g2 : decide ((0 : Int) < 0) = false := rfl
    rw [hj, if_neg (by omega)]
    have stq := (And.intro (hln) (And.intro (g1) (g2)))
    repeat first
      | ((with_reducible apply ends_bind); case h => first | (simp only [stp, stq]; first | done | rfl) | rfl)
      | ((with_reducible apply ends_t); case h => first | rfl | (simp only [stp, stq]; done))
      | ((with_reducible apply ends_f); case h => first | rfl | (simp only [stp, stq]; done))
    exact ends_some ⟨rfl, rfl, rfl, rfl, rfl⟩
end Go.Sy.Pre
