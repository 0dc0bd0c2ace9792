/-
  Layer 09: what maps.Clean answers.
-/
import Derived.Test.YtapjcmloaeaefaaPfCln
namespace Go.Sy.Pre
open Go.Proofs Num Go.Proofs.Ytapjcmloaeaefaa Go.RowKit

def ldC (p : List UInt8) : Array Value := (p.map fun x => Value.int .u8 x.toNat).toArray
def gC (a b c : Int) : Array Value := #[.int .i64 a, .int .i64 b, .int .i64 c]
def gl (a b c : Int) : List AV := [.v (.int .i64 a), .v (.int .i64 b), .v (.int .i64 c)]
theorem ldC_fit (W : World) (im : Bool → Nat → Prop) (β : Beta) (p : List UInt8) : VR W im β (.agg (u8l p)) (.agg (ldC p)) := by
  refine .agg _ _ (by simp [ldC, u8l]) (fun i y hy => ?_) (fun i x y hx hy => ?_)
  · unfold ldC at hy
    rw [List.getElem?_toArray, List.getElem?_map, Option.map_eq_some_iff] at hy
    obtain ⟨b, _, rfl⟩ := hy
    rfl
  · unfold ldC at hy
    unfold u8l at hx
    rw [List.getElem?_toArray, List.getElem?_map, Option.map_eq_some_iff] at hy
    rw [List.getElem?_map, Option.map_eq_some_iff] at hx
    obtain ⟨b, hb, rfl⟩ := hy
    obtain ⟨b', hb', rfl⟩ := hx
    rw [hb, Option.some.injEq] at hb'
    subst hb'
    exact .v _
theorem gC_fit (W : World) (im : Bool → Nat → Prop) (β : Beta) (a b c : Int) : VR W im β (gV a b c) (.agg (gC a b c)) := by
  refine .agg _ _ rfl (fun i y hy => ?_) (fun i x y hx hy => ?_)
  · rcases i with _ | _ | _ | i <;> simp [gC] at hy <;> subst hy <;> rfl
  · rcases i with _ | _ | _ | i <;> simp [gC] at hx hy <;> subst hx hy <;> exact .v _

/-- a kind's places that are taken -/
def cA (p : List UInt8) (a b c k : Int) : Nat := cnt (mp p k) 0 (lim (mp p k) (manyN a b c k : Nat))
def cT (p : List UInt8) : Nat := cnt p 0 (lim p 432)
open Classical in
noncomputable def clV (p : List UInt8) (a b c : Int) : Bool := if gOk a b c then decide (cA p a b c 0 + cA p a b c 4 = cT p) else false
theorem mp_le (p : List UInt8) (k : Int) : (mp p k).length ≤ 16 := by
  unfold mp
  rw [List.length_take]
  have : (pSz k).toNat ≤ 16 := by
    unfold pSz
    split
    · omega
    · split <;> omega
  omega
theorem cA_le (p : List UInt8) (a b c k : Int) : cA p a b c k ≤ 128 := by
  have h1 := cnt_le (mp p k) (lim (mp p k) (manyN a b c k : Nat)) 0
  have h2 := lim_le (mp p k) (manyN a b c k : Nat)
  have h3 := mp_le p k
  unfold cA
  omega
/-! ## the code's parts -/
theorem c_all : Try.f24.body = some (.seq c_clP0 (.seq c_clP1 (.seq c_clP3 (.seq (.seq c_clR4 c_clBlk) c_clP8)))) := by kernel_rfl
theorem c_blk : c_clBlk = .block 0 (.loop c_clB) := by kernel_rfl
theorem c_b : c_clB = .seq c_clR5 (.seq c_clC (.block 1 (.seq c_clR6 c_clR7))) := by kernel_rfl
theorem c_c : c_clC = .cond (.tmp 13) .skip (.exit 0) := by kernel_rfl
theorem c_r4 : c_clR4 = .region 4 (opsC c_clR4) false := by kernel_rfl
theorem c_r5 : c_clR5 = .region 5 (opsC c_clR5) false := by kernel_rfl
theorem c_r6 : c_clR6 = .region 6 (opsC c_clR6) false := by kernel_rfl
theorem o_r4 : ∃ o1 o2 : Oper, (opsC c_clR4).toList = [o1, o2] ∧ o1.op = .call { callee := .value (.func 41), args := #[], argTypes := #[] } ∧ o1.dst = some 10 ∧ o1.guard = none ∧ o2.op = .range 62 (.tmp 10) ∧ o2.dst = some 11 ∧ o2.guard = none := ⟨_, _, rfl, rfl, rfl, rfl, rfl, rfl, rfl⟩
theorem o_r5 : ∃ o1 o2 : Oper, (opsC c_clR5).toList = [o1, o2] ∧ o1.op = .next (.tmp 11) false ∧ o1.dst = some 12 ∧ o1.guard = none ∧ o2.op = .extract (.tmp 12) 0 ∧ o2.dst = some 13 ∧ o2.guard = none := ⟨_, _, rfl, rfl, rfl, rfl, rfl, rfl, rfl⟩
theorem o_r6 : ∃ o1 o2 o3 : Oper, (opsC c_clR6).toList = [o1, o2, o3] ∧ o1.op = .entry (.tmp 11) ∧ o1.dst = some 14 ∧ o1.guard = none ∧ o2.op = .extract (.tmp 14) 0 ∧ o2.dst = some 15 ∧ o2.guard = none ∧ o3.op = .assign (.tmp 15) ∧ o3.dst = some 6 ∧ o3.guard = none := ⟨_, _, _, rfl, rfl, rfl, rfl, rfl, rfl, rfl, rfl, rfl, rfl⟩
/-! ## what has come -/
def stg (A B : Nat) (n : Nat) (seen : Array Nat) (s : Nat) : Prop :=
  (n = 2 ∧ seen = #[] ∧ s = 0) ∨ (n = 1 ∧ seen = #[0] ∧ s = A) ∨ (n = 1 ∧ seen = #[1] ∧ s = B) ∨ (n = 0 ∧ seen = #[0, 1] ∧ s = A + B) ∨ (n = 0 ∧ seen = #[1, 0] ∧ s = B + A)
theorem stg_end {A B n : Nat} {seen : Array Nat} {s : Nat} (h : stg A B n seen s) (h0 : (leftOf #[e1, e2] seen).size = 0) : s = A + B := by
  rcases h with ⟨rfl, rfl, rfl⟩ | ⟨rfl, rfl, rfl⟩ | ⟨rfl, rfl, rfl⟩ | ⟨rfl, rfl, rfl⟩ | ⟨rfl, rfl, rfl⟩
  · simp [leftOf, e1, e2] at h0
  · simp [leftOf, e1, e2] at h0
  · simp [leftOf, e1, e2] at h0
  · rfl
  · omega
theorem stg_next {A B n : Nat} {seen : Array Nat} {s : Nat} (h : stg A B n seen s) (e : MapEntry) (he : e ∈ (leftOf #[e1, e2] seen).toList) :
    ∃ k : Int, (k = 0 ∨ k = 4) ∧ e.key = .int .i64 k ∧ 0 < n ∧ stg A B (n - 1) (seen.push e.born) (s + if k = 0 then A else B) ∧ (#[e1, e2] : Array MapEntry).find? (·.born == e.born) = some e := by
  rcases h with ⟨rfl, rfl, rfl⟩ | ⟨rfl, rfl, rfl⟩ | ⟨rfl, rfl, rfl⟩ | ⟨rfl, rfl, rfl⟩ | ⟨rfl, rfl, rfl⟩
  · simp [leftOf] at he
    rcases he with rfl | rfl
    · exact ⟨0, .inl rfl, rfl, by omega, .inr (.inl ⟨rfl, rfl, by simp⟩), rfl⟩
    · exact ⟨4, .inr rfl, rfl, by omega, .inr (.inr (.inl ⟨rfl, rfl, by simp⟩)), rfl⟩
  · simp [leftOf, e1, e2] at he
    subst he
    exact ⟨4, .inr rfl, rfl, by omega, .inr (.inr (.inr (.inl ⟨rfl, rfl, by simp⟩))), rfl⟩
  · simp [leftOf, e1, e2] at he
    subst he
    exact ⟨0, .inl rfl, rfl, by omega, .inr (.inr (.inr (.inr ⟨rfl, rfl, by simp⟩))), rfl⟩
  · simp [leftOf, e1, e2] at he
  · simp [leftOf, e1, e2] at he
end Go.Sy.Pre
