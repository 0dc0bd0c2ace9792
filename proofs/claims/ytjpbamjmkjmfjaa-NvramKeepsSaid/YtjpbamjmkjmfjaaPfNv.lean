/-
  Layer 05: words: what their sum is, what they say.
-/
import Derived.Test.YtjpbamjmkjmfjaaLwNv
import Derived.Test.YtjpbamjmkjmfjaaPfCrc
import Derived.Test.YtjpbamjmkjmfjaaPfNum
import Derived.Test.YtjpbamjmkjmfjaaSyArr
namespace Go.Sy
open Go.Proofs Num Crc

theorem h4 : arr8 Try.prog 51 4 = true := by kernel_rfl
/-- words -/
def wds (t g s : BitVec 32) : List AV := [.bp 0 0, v32 t, v32 g, v32 s]
/-- the sum of a turn and groups -/
def tot (t g : BitVec 32) : BitVec 32 := Crc.sum [p32 t.toNat, p32 g.toNat].flatten
theorem p32_len (x : Nat) : (p32 x).length = 4 := rfl
theorem fa_w : fieldAddrA Try.prog 47 (.bp 1 0) 1 = some (.bp 1 1) ∧ fieldAddrA Try.prog 47 (.bp 1 0) 0 = some (.bp 1 0) := ⟨by kernel_rfl, by kernel_rfl⟩
theorem ia_w : indexAddrA Try.prog 45 (.bp 1 1) (.v (.int .i64 0)) = some (.bp 1 1) ∧ indexAddrA Try.prog 45 (.bp 1 1) (.v (.int .i64 1)) = some (.bp 1 2) ∧ indexAddrA Try.prog 45 (.bp 1 1) (.v (.int .i64 2)) = some (.bp 1 3) := ⟨by kernel_rfl, by kernel_rfl, by kernel_rfl⟩
theorem ld_w (S : List AV) (t g s : BitVec 32) (r : Bx) : loadA Try.prog 32 (S :: wds t g s :: r) (.bp 1 1) = some (v32 t) ∧ loadA Try.prog 32 (S :: wds t g s :: r) (.bp 1 2) = some (v32 g) ∧ loadA Try.prog 32 (S :: wds t g s :: r) (.bp 1 3) = some (v32 s) := ⟨by kernel_rfl, by kernel_rfl, by kernel_rfl⟩
theorem nil_p (b o : Nat) : nilA (.bp b o) = some (.bp b o) := rfl
theorem al_4 (bx : Bx) : allocA Try.prog bx 51 = some (.bp bx.length 0, bx ++ [u8l (List.replicate 4 0)]) := al_a h4 bx
theorem bs_2 (bx : Bx) (x y : AV) (hx : x.okc = true) (hy : y.okc = true) (hx1 : x.cells = [x]) (hy1 : y.cells = [y]) : buildSliceA Try.prog bx 55 2 [(0, x), (1, y)] = some (.bsl bx.length 0 2 1, bx ++ [[x, y]]) := by
  have h : buildSliceA Try.prog bx 55 2 [(0, x), (1, y)] = (if x.okc = true ∧ x.cells.length = 1 ∧ 0 + 1 ≤ 2 then (if y.okc = true ∧ y.cells.length = 1 ∧ 1 + 1 ≤ (storeL [.v (.slice none 0 0), .v (.slice none 0 0)] 0 x.cells).length then some (storeL (storeL [.v (.slice none 0 0), .v (.slice none 0 0)] 0 x.cells) 1 y.cells) else none) else none).map fun cs => (.bsl bx.length 0 2 1, bx ++ [cs]) := by kernel_rfl
  rw [h, if_pos ⟨hx, by rw [hx1]; rfl, by omega⟩, hx1, hy1, if_pos ⟨hy, rfl, by rw [storeL_length]; exact Nat.le_refl _⟩]
  rfl
theorem put_ev (m : Nat) (x : BitVec 32) : cf (evFn cx0 ext0 (m + 10)) 26 [v32 x] = some (.agg (u8l (p32 x.toNat))) := put32_ev m x.toNat
theorem of_2 (m : Nat) (t g : BitVec 32) : cf (evFn cx0 ext0 (m + 40)) 27 [.sl 2 [byt true (p32 t.toNat), byt true (p32 g.toNat)] true] = some (v32 (tot t g)) :=
  of_ev (n := m + 40) (B := 4) true [byt true (p32 t.toNat), byt true (p32 g.toNat)] [p32 t.toNat, p32 g.toNat] (RdP.map true [p32 t.toNat, p32 g.toNat]) (by intro b hb; simp only [List.mem_cons, List.not_mem_nil, or_false] at hb; rcases hb with rfl | rfl <;> exact Nat.le_of_eq rfl) (by simp) (by decide) (by simp) (by simp)
/-- the same boxes -/
theorem eqC_32 (x : BitVec 32) : eqC (v32 x) (v32 x) = true := by simp [eqC, eqD, eqV]
theorem eq_wds (l u : Int) (gn : Bool) (t g s : BitVec 32) : (eqCs (sup l u gn) (sup l u gn) && (eqCs (wds t g s) (wds t g s) && true)) = true := by
  simp [sup, wds, eqCs, eqC, eqD, eqV]
theorem tot_raw (m : Nat) (l u : Int) (gn : Bool) (t g s : BitVec 32) : ∃ r, evFn cx0 ext0 (m + 60) 21 [.bp 1 0] [sup l u gn, wds t g s] = some (v32 (tot t g), [sup l u gn, wds t g s] ++ r) := by
  have c1 : ∀ bx, callA (evFn cx0 ext0 (m + 59)) md_nvram_Words_total bx 26 [v32 t] = some (.agg (u8l (p32 t.toNat)), bx) := fun bx => by
    rw [callA_frozen rfl]
    show (cf (evFn cx0 ext0 (m + 59)) 26 [v32 t]).map _ = _
    rw [put_ev (m + 49)]
    rfl
  have c2 : ∀ bx, callA (evFn cx0 ext0 (m + 59)) md_nvram_Words_total bx 26 [v32 g] = some (.agg (u8l (p32 g.toNat)), bx) := fun bx => by
    rw [callA_frozen rfl]
    show (cf (evFn cx0 ext0 (m + 59)) 26 [v32 g]).map _ = _
    rw [put_ev (m + 49)]
    rfl
  have ld := fun r => ld_w (sup l u gn) t g s r
  have pl := p32_len
  have zl : (List.replicate 4 (0 : UInt8)).length = 4 := rfl
  have s2 := st_a h4 (P := Try.prog) (bx := [sup l u gn, wds t g s, u8l (List.replicate 4 0), u8l (List.replicate 4 0)]) (k := 2) (b := List.replicate 4 0) (c := p32 t.toNat) rfl zl (pl _)
  have s3 := st_a h4 (P := Try.prog) (bx := [sup l u gn, wds t g s, u8l (p32 t.toNat), u8l (List.replicate 4 0)]) (k := 3) (b := List.replicate 4 0) (c := p32 g.toNat) rfl zl (pl _)
  have q2 := sl_a h4 (P := Try.prog) (bx := [sup l u gn, wds t g s, u8l (p32 t.toNat), u8l (p32 g.toNat)]) (k := 2) (b := p32 t.toNat) rfl (pl _)
  have q3 := sl_a h4 (P := Try.prog) (bx := [sup l u gn, wds t g s, u8l (p32 t.toNat), u8l (p32 g.toNat)]) (k := 3) (b := p32 g.toNat) rfl (pl _)
  have bs := bs_2 [sup l u gn, wds t g s, u8l (p32 t.toNat), u8l (p32 g.toNat)] (.bsl 2 0 4 1) (.bsl 3 0 4 1) rfl rfl rfl rfl
  have c3 : callA (evFn cx0 ext0 (m + 59)) md_nvram_Words_total [sup l u gn, wds t g s, u8l (p32 t.toNat), u8l (p32 g.toNat), [.bsl 2 0 4 1, .bsl 3 0 4 1]] 27 [.bsl 4 0 2 1] = some (v32 (tot t g), [sup l u gn, wds t g s, u8l (p32 t.toNat), u8l (p32 g.toNat), [.bsl 2 0 4 1, .bsl 3 0 4 1]]) := by
    rw [callA_frozen rfl]
    have hf : [AV.bsl 4 0 2 1].map (frz [sup l u gn, wds t g s, u8l (p32 t.toNat), u8l (p32 g.toNat), [.bsl 2 0 4 1, .bsl 3 0 4 1]] true 6) = [.sl 2 [byt true (p32 t.toNat), byt true (p32 g.toNat)] true] := by
      have h2 : frz [sup l u gn, wds t g s, u8l (p32 t.toNat), u8l (p32 g.toNat), [.bsl 2 0 4 1, .bsl 3 0 4 1]] true 5 (.bsl 2 0 4 1) = byt true (p32 t.toNat) := frz_b8 true (b := p32 t.toNat) (d := 3) rfl rfl
      have h3 : frz [sup l u gn, wds t g s, u8l (p32 t.toNat), u8l (p32 g.toNat), [.bsl 2 0 4 1, .bsl 3 0 4 1]] true 5 (.bsl 3 0 4 1) = byt true (p32 g.toNat) := frz_b8 true (b := p32 g.toNat) (d := 3) rfl rfl
      show [AV.sl 2 [frz _ true 5 (.bsl 2 0 4 1), frz _ true 5 (.bsl 3 0 4 1)] true] = _
      rw [h2, h3]
    rw [hf, of_2 (m + 19)]
    rfl
  simp only [List.set_cons_succ, List.set_cons_zero] at s2 s3
  refine ⟨[u8l (p32 t.toNat), u8l (p32 g.toNat), [.bsl 2 0 4 1, .bsl 3 0 4 1]], ?_⟩
  rw [E_nvram_Words_total]
  refine ends_fin (P := Try.prog) ?_
  unfold F_nvram_Words_total
  have stq := (And.intro (al_4) (And.intro (nil_p) (And.intro (fa_w) (And.intro (ia_w) (And.intro (ld) (And.intro (c1) (And.intro (c2) (And.intro (s2) (And.intro (s3) (And.intro (q2) (And.intro (q3) (And.intro (bs) (c3)))))))))))))
  repeat first
    | ((with_reducible apply ends_bind); case h => first | (simp only [stp, stq]; first | done | rfl) | rfl)
    | ((with_reducible apply ends_t); case h => first | rfl | (simp only [stp, stq]; done))
    | ((with_reducible apply ends_f); case h => first | rfl | (simp only [stp, stq]; done))
  exact ends_some ⟨.inl rfl, _, rfl, rfl⟩
theorem tot_raw6 (m : Nat) (l u : Int) (gn : Bool) (t g s : BitVec 32) (A B C D : List AV) : ∃ r, evFn cx0 ext0 (m + 60) 21 [.bp 1 0] [sup l u gn, wds t g s, A, B, C, D] = some (v32 (tot t g), [sup l u gn, wds t g s, A, B, C, D] ++ r) := by
  have c1 : ∀ bx, callA (evFn cx0 ext0 (m + 59)) md_nvram_Words_total bx 26 [v32 t] = some (.agg (u8l (p32 t.toNat)), bx) := fun bx => by
    rw [callA_frozen rfl]
    show (cf (evFn cx0 ext0 (m + 59)) 26 [v32 t]).map _ = _
    rw [put_ev (m + 49)]
    rfl
  have c2 : ∀ bx, callA (evFn cx0 ext0 (m + 59)) md_nvram_Words_total bx 26 [v32 g] = some (.agg (u8l (p32 g.toNat)), bx) := fun bx => by
    rw [callA_frozen rfl]
    show (cf (evFn cx0 ext0 (m + 59)) 26 [v32 g]).map _ = _
    rw [put_ev (m + 49)]
    rfl
  have ld := fun r => ld_w (sup l u gn) t g s r
  have pl := p32_len
  have zl : (List.replicate 4 (0 : UInt8)).length = 4 := rfl
  have s2 := st_a h4 (P := Try.prog) (bx := [sup l u gn, wds t g s, A, B, C, D, u8l (List.replicate 4 0), u8l (List.replicate 4 0)]) (k := 6) (b := List.replicate 4 0) (c := p32 t.toNat) rfl zl (pl _)
  have s3 := st_a h4 (P := Try.prog) (bx := [sup l u gn, wds t g s, A, B, C, D, u8l (p32 t.toNat), u8l (List.replicate 4 0)]) (k := 7) (b := List.replicate 4 0) (c := p32 g.toNat) rfl zl (pl _)
  have q2 := sl_a h4 (P := Try.prog) (bx := [sup l u gn, wds t g s, A, B, C, D, u8l (p32 t.toNat), u8l (p32 g.toNat)]) (k := 6) (b := p32 t.toNat) rfl (pl _)
  have q3 := sl_a h4 (P := Try.prog) (bx := [sup l u gn, wds t g s, A, B, C, D, u8l (p32 t.toNat), u8l (p32 g.toNat)]) (k := 7) (b := p32 g.toNat) rfl (pl _)
  have bs := bs_2 [sup l u gn, wds t g s, A, B, C, D, u8l (p32 t.toNat), u8l (p32 g.toNat)] (.bsl 6 0 4 1) (.bsl 7 0 4 1) rfl rfl rfl rfl
  have c3 : callA (evFn cx0 ext0 (m + 59)) md_nvram_Words_total [sup l u gn, wds t g s, A, B, C, D, u8l (p32 t.toNat), u8l (p32 g.toNat), [.bsl 6 0 4 1, .bsl 7 0 4 1]] 27 [.bsl 8 0 2 1] = some (v32 (tot t g), [sup l u gn, wds t g s, A, B, C, D, u8l (p32 t.toNat), u8l (p32 g.toNat), [.bsl 6 0 4 1, .bsl 7 0 4 1]]) := by
    rw [callA_frozen rfl]
    have hf : [AV.bsl 8 0 2 1].map (frz [sup l u gn, wds t g s, A, B, C, D, u8l (p32 t.toNat), u8l (p32 g.toNat), [.bsl 6 0 4 1, .bsl 7 0 4 1]] true 6) = [.sl 2 [byt true (p32 t.toNat), byt true (p32 g.toNat)] true] := by
      have h2 : frz [sup l u gn, wds t g s, A, B, C, D, u8l (p32 t.toNat), u8l (p32 g.toNat), [.bsl 6 0 4 1, .bsl 7 0 4 1]] true 5 (.bsl 6 0 4 1) = byt true (p32 t.toNat) := frz_b8 true (b := p32 t.toNat) (d := 3) rfl rfl
      have h3 : frz [sup l u gn, wds t g s, A, B, C, D, u8l (p32 t.toNat), u8l (p32 g.toNat), [.bsl 6 0 4 1, .bsl 7 0 4 1]] true 5 (.bsl 7 0 4 1) = byt true (p32 g.toNat) := frz_b8 true (b := p32 g.toNat) (d := 3) rfl rfl
      show [AV.sl 2 [frz _ true 5 (.bsl 6 0 4 1), frz _ true 5 (.bsl 7 0 4 1)] true] = _
      rw [h2, h3]
    rw [hf, of_2 (m + 19)]
    rfl
  simp only [List.set_cons_succ, List.set_cons_zero] at s2 s3
  refine ⟨[u8l (p32 t.toNat), u8l (p32 g.toNat), [.bsl 6 0 4 1, .bsl 7 0 4 1]], ?_⟩
  rw [E_nvram_Words_total]
  refine ends_fin (P := Try.prog) ?_
  unfold F_nvram_Words_total
  have stq := (And.intro (al_4) (And.intro (nil_p) (And.intro (fa_w) (And.intro (ia_w) (And.intro (ld) (And.intro (c1) (And.intro (c2) (And.intro (s2) (And.intro (s3) (And.intro (q2) (And.intro (q3) (And.intro (bs) (c3)))))))))))))
  repeat first
    | ((with_reducible apply ends_bind); case h => first | (simp only [stp, stq]; first | done | rfl) | rfl)
    | ((with_reducible apply ends_t); case h => first | rfl | (simp only [stp, stq]; done))
    | ((with_reducible apply ends_f); case h => first | rfl | (simp only [stp, stq]; done))
  exact ends_some ⟨.inl rfl, _, rfl, rfl⟩
/-- what the words say -/
def sayV (t g s : BitVec 32) : BitVec 32 := if s = tot t g then g else 255#32
theorem keep2 (l u : Int) (gn : Bool) (t g s : BitVec 32) : (([sup l u gn, wds t g s] : Bx).map fun l => l.map (AV.keep (· < 2))) = [sup l u gn, wds t g s] := rfl
theorem says_raw (m : Nat) (l u : Int) (gn : Bool) (t g s : BitVec 32) : evFn cx0 ext0 (m + 61) 11 [.bp 1 0] [sup l u gn, wds t g s] = some (.tup [v32 (sayV t g s), .v (.bool (decide (s = tot t g)))], [sup l u gn, wds t g s]) := by
  obtain ⟨r, h⟩ := tot_raw m l u gn t g s
  have c1 : callA (evFn cx0 ext0 (m + 60)) md_nvram_Words_Says [sup l u gn, wds t g s] 21 [.bp 1 0] = some (v32 (tot t g), [sup l u gn, wds t g s]) := by
    rw [callA_objR rfl h (by simp) (eq_wds l u gn t g s)]
    rfl
  have c2 : callA (evFn cx0 ext0 (m + 60)) md_nvram_Words_Says [sup l u gn, wds t g s] 18 [] = some (v32 255#32, [sup l u gn, wds t g s]) := by
    rw [callA_frozen rfl]
    have : cf (evFn cx0 ext0 (m + 60)) 18 [] = some (v32 255#32) := by kernel_rfl
    show (cf (evFn cx0 ext0 (m + 60)) 18 []).map _ = _
    rw [this]
    rfl
  have ld := fun r => ld_w (sup l u gn) t g s r
  rw [E_nvram_Words_Says]
  refine ends_fin (P := Try.prog) ?_
  unfold F_nvram_Words_Says sayV
  by_cases hs : s = tot t g
  · have g1 : (i32 s != i32 (tot t g)) = false := by rw [hs]; simp
    rw [if_pos hs, decide_eq_true hs]
    have stq := (And.intro (nil_p) (And.intro (fa_w) (And.intro (ia_w) (And.intro (ld) (And.intro (c1) (g1))))))
    repeat first
      | ((with_reducible apply ends_bind); case h => first | (simp only [stp, stq]; first | done | rfl) | rfl)
      | ((with_reducible apply ends_t); case h => first | rfl | (simp only [stp, stq]; done))
      | ((with_reducible apply ends_f); case h => first | rfl | (simp only [stp, stq]; done))
    exact ends_some ⟨.inl rfl, _, rfl, rfl⟩
  · have g1 : (i32 s != i32 (tot t g)) = true := by
      have : ¬ i32 s = i32 (tot t g) := fun h => hs (i32_inj h)
      simpa using this
    rw [if_neg hs, decide_eq_false hs]
    have stq := (And.intro (nil_p) (And.intro (fa_w) (And.intro (ia_w) (And.intro (ld) (And.intro (c1) (And.intro (g1) (c2)))))))
    repeat first
      | ((with_reducible apply ends_bind); case h => first | (simp only [stp, stq]; first | done | rfl) | rfl)
      | ((with_reducible apply ends_t); case h => first | rfl | (simp only [stp, stq]; done))
      | ((with_reducible apply ends_f); case h => first | rfl | (simp only [stp, stq]; done))
    exact ends_some ⟨.inl rfl, _, rfl, rfl⟩
/-- is a group's bit set? -/
theorem bit_v (v : BitVec 32) (q : Nat) (hq : q < 8) : bitI .and .u32 ((i32 v).fdiv (2 ^ (min q IntKind.u32.bits))) 1 = if v.getLsbD q then 1 else 0 := by
  have h1 : (i32 v).fdiv (2 ^ (min q IntKind.u32.bits)) = i32 (v >>> q) := by
    rw [show min q IntKind.u32.bits = q from Nat.min_eq_left (by show q ≤ 32; omega)]
    unfold i32
    rw [BitVec.toNat_ushiftRight, Nat.shiftRight_eq_div_pow]
    have := fd v.toNat (2 ^ q)
    rw [← this]
    congr 1
  rw [h1, show (1 : Int) = i32 1#32 from rfl, and32]
  have h2 : (v >>> q) &&& 1#32 = if v.getLsbD q then 1#32 else 0#32 := by
    apply BitVec.eq_of_getLsbD_eq
    intro i hi
    rw [BitVec.getLsbD_and, BitVec.getLsbD_ushiftRight]
    rcases i with _ | i
    · cases hb : v.getLsbD q <;> simp [hb]
    · have : (1#32).getLsbD (i + 1) = false := by simp
      rw [this, Bool.and_false]
      split <;> simp
  rw [h2]
  split <;> rfl
theorem marked_raw (m : Nat) (l u : Int) (gn : Bool) (t g s : BitVec 32) (q : Nat) (hq : q < 8) : evFn cx0 ext0 (m + 62) 14 [.bp 1 0, .v (.int .i64 q)] [sup l u gn, wds t g s] = some (.v (.bool ((sayV t g s).getLsbD q)), [sup l u gn, wds t g s]) := by
  have c1 : callA (evFn cx0 ext0 (m + 61)) md_nvram_Words_Marked [sup l u gn, wds t g s] 11 [.bp 1 0] = some (.tup [v32 (sayV t g s), .v (.bool (decide (s = tot t g)))], [sup l u gn, wds t g s]) := by
    rw [callA_objR rfl (says_raw m l u gn t g s) (by simp) (eq_wds l u gn t g s)]
    rfl
  have c2 : callA (evFn cx0 ext0 (m + 61)) md_nvram_Words_Marked [sup l u gn, wds t g s] 19 [.v (.int .i64 q)] = some (.v (.bool true), [sup l u gn, wds t g s]) := by
    rw [callA_frozen rfl]
    show (cf (evFn cx0 ext0 (m + 61)) 19 [.v (.int .i64 q)]).map _ = _
    rw [group_ev, decide_eq_true (by omega)]
    rfl
  have hb := bit_v (sayV t g s) q hq
  rw [E_nvram_Words_Marked]
  refine ends_fin (P := Try.prog) ?_
  unfold F_nvram_Words_Marked
  cases hv : (sayV t g s).getLsbD q
  · rw [hv] at hb
    have g1 : ((0 : Int) == 1) = false := rfl
    have hb' : bitI .and .u32 ((i32 (sayV t g s)).fdiv (2 ^ (min q IntKind.u32.bits))) 1 = 0 := hb
    have stq := (And.intro (c1) (And.intro (c2) (And.intro (hb') (g1))))
    repeat first
      | ((with_reducible apply ends_bind); case h => first | (simp only [stp, stq]; first | done | rfl) | rfl)
      | ((with_reducible apply ends_t); case h => first | rfl | (simp only [stp, stq]; done))
      | ((with_reducible apply ends_f); case h => first | rfl | (simp only [stp, stq]; done))
    exact ends_some ⟨.inl rfl, _, rfl, rfl⟩
  · rw [hv] at hb
    have g1 : ((1 : Int) == 1) = true := rfl
    have hb' : bitI .and .u32 ((i32 (sayV t g s)).fdiv (2 ^ (min q IntKind.u32.bits))) 1 = 1 := hb
    have stq := (And.intro (c1) (And.intro (c2) (And.intro (hb') (g1))))
    repeat first
      | ((with_reducible apply ends_bind); case h => first | (simp only [stp, stq]; first | done | rfl) | rfl)
      | ((with_reducible apply ends_t); case h => first | rfl | (simp only [stp, stq]; done))
      | ((with_reducible apply ends_f); case h => first | rfl | (simp only [stp, stq]; done))
    exact ends_some ⟨.inl rfl, _, rfl, rfl⟩
end Go.Sy
