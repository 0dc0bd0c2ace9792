/-
  Layer 05: words that are marked, kept, cleared.
-/
import Derived.Test.YtjpbamjmkjmfjaaPfNv3
namespace Go.Sy
open Go.Proofs Num Crc

def one (q : Nat) : BitVec 32 := 1#32 <<< q
theorem shl_1 (q : Nat) (hq : q < 8) : IntKind.u32.wrap (1 * 2 ^ (min q IntKind.u32.bits)) = i32 (one q) := by
  match q, hq with
  | 0, _ => decide
  | 1, _ => decide
  | 2, _ => decide
  | 3, _ => decide
  | 4, _ => decide
  | 5, _ => decide
  | 6, _ => decide
  | 7, _ => decide
theorem ln3 (l : Int) : rds l < 3 ∨ rds l = 3 := by
  unfold rds
  split <;> omega
/-- what 'to' answers, and leaves -/
theorem to_call (m : Nat) (md : FuncId → Md) (hmd : md 20 = .objT) (l u : Int) (hl : l = -1 ∨ (0 ≤ l ∧ l ≤ 4)) (t g s k : BitVec 32) :
    ∃ u', callA (evFn cx0 ext0 (m + 62)) md [sup l u false, wds t g s] 20 [.bp 1 0, v32 k] = some (.v (.int .i64 (if rds l = 3 then 0 else 20)), [sup (lft l (rds l)) u' (decide (rds l < 3)), wst t g s k (rds l)]) := by
  obtain ⟨u', r, h⟩ := to_raw m l u hl t g s k
  refine ⟨u', ?_⟩
  rw [callA_objT hmd h (by simp)]
  have hw : ∃ a b c, wst t g s k (rds l) = wds a b c := by
    unfold wst
    split
    · exact ⟨_, _, _, rfl⟩
    · exact ⟨_, _, _, rfl⟩
    · exact ⟨_, _, _, rfl⟩
    · exact ⟨_, _, _, rfl⟩
  obtain ⟨a, b, c, hw⟩ := hw
  rw [hw]
  rfl
theorem all_c (m : Nat) (md : FuncId → Md) (hmd : md 18 = .frozen) (bx : Bx) : callA (evFn cx0 ext0 (m + 1)) md bx 18 [] = some (v32 255#32, bx) := by
  rw [callA_frozen hmd]
  have : cf (evFn cx0 ext0 (m + 1)) 18 [] = some (v32 255#32) := by kernel_rfl
  show (cf (evFn cx0 ext0 (m + 1)) 18 []).map _ = _
  rw [this]
  rfl
theorem keep_raw (m : Nat) (l u : Int) (hl : l = -1 ∨ (0 ≤ l ∧ l ≤ 4)) (t g s k : BitVec 32) : ∃ u', evFn cx0 ext0 (m + 63) 15 [.bp 1 0, v32 k] [sup l u false, wds t g s] = some (.v (.int .i64 (if rds l = 3 then 0 else 20)), [sup (lft l (rds l)) u' (decide (rds l < 3)), wst t g s (k &&& 255#32) (rds l)]) := by
  obtain ⟨u', h⟩ := to_call m md_nvram_Words_Keep rfl l u hl t g s (k &&& 255#32)
  refine ⟨u', ?_⟩
  have c1 := all_c (m + 61) md_nvram_Words_Keep rfl [sup l u false, wds t g s]
  have e := and32 k 255#32
  rw [E_nvram_Words_Keep]
  refine ends_fin (P := Try.prog) ?_
  unfold F_nvram_Words_Keep
  have stq := (And.intro (c1) (And.intro (e) (h)))
  repeat first
    | ((with_reducible apply ends_bind); case h => first | (simp only [stp, stq]; first | done | rfl) | rfl)
    | ((with_reducible apply ends_t); case h => first | rfl | (simp only [stp, stq]; done))
    | ((with_reducible apply ends_f); case h => first | rfl | (simp only [stp, stq]; done))
  exact ends_some ⟨.inl rfl, _, rfl, rfl⟩
theorem clear_raw (m : Nat) (l u : Int) (hl : l = -1 ∨ (0 ≤ l ∧ l ≤ 4)) (t g s : BitVec 32) : ∃ u', evFn cx0 ext0 (m + 64) 8 [.bp 1 0] [sup l u false, wds t g s] = some (.v (.int .i64 (if rds l = 3 then 0 else 20)), [sup (lft l (rds l)) u' (decide (rds l < 3)), wst t g s 0#32 (rds l)]) := by
  obtain ⟨u', h⟩ := keep_raw m l u hl t g s 0#32
  refine ⟨u', ?_⟩
  have hz : 0#32 &&& 255#32 = 0#32 := by decide
  rw [hz] at h
  have hw : ∃ a b c, wst t g s 0#32 (rds l) = wds a b c := by
    unfold wst
    split
    · exact ⟨_, _, _, rfl⟩
    · exact ⟨_, _, _, rfl⟩
    · exact ⟨_, _, _, rfl⟩
    · exact ⟨_, _, _, rfl⟩
  have c1 : callA (evFn cx0 ext0 (m + 63)) md_nvram_Words_Clear [sup l u false, wds t g s] 15 [.bp 1 0, .v (.int .u32 0)] = some (.v (.int .i64 (if rds l = 3 then 0 else 20)), [sup (lft l (rds l)) u' (decide (rds l < 3)), wst t g s 0#32 (rds l)]) := by
    have h' : evFn cx0 ext0 (m + 63) 15 [.bp 1 0, .v (.int .u32 0)] [sup l u false, wds t g s] = _ := h
    rw [callA_objT rfl h' (by simp)]
    obtain ⟨a, b, c, hw⟩ := hw
    rw [hw]
    rfl
  rw [E_nvram_Words_Clear]
  refine ends_fin (P := Try.prog) ?_
  unfold F_nvram_Words_Clear
  have stq := (c1)
  repeat first
    | ((with_reducible apply ends_bind); case h => first | (simp only [stp, stq]; first | done | rfl) | rfl)
    | ((with_reducible apply ends_t); case h => first | rfl | (simp only [stp, stq]; done))
    | ((with_reducible apply ends_f); case h => first | rfl | (simp only [stp, stq]; done))
  exact ends_some ⟨.inl rfl, _, rfl, rfl⟩
theorem says_c (m : Nat) (md : FuncId → Md) (hmd : md 11 = .objR) (l u : Int) (gn : Bool) (t g s : BitVec 32) : callA (evFn cx0 ext0 (m + 61)) md [sup l u gn, wds t g s] 11 [.bp 1 0] = some (.tup [v32 (sayV t g s), .v (.bool (decide (s = tot t g)))], [sup l u gn, wds t g s]) := by
  rw [callA_objR hmd (says_raw m l u gn t g s) (by simp) (eq_wds l u gn t g s)]
  rfl
theorem marked_c (m : Nat) (md : FuncId → Md) (hmd : md 14 = .objR) (l u : Int) (gn : Bool) (t g s : BitVec 32) (q : Nat) (hq : q < 8) : callA (evFn cx0 ext0 (m + 62)) md [sup l u gn, wds t g s] 14 [.bp 1 0, .v (.int .i64 q)] = some (.v (.bool ((sayV t g s).getLsbD q)), [sup l u gn, wds t g s]) := by
  rw [callA_objR hmd (marked_raw m l u gn t g s q hq) (by simp) (eq_wds l u gn t g s)]
  rfl
/-- words that are right, and a group that is marked: nothing is done -/
theorem mark_has (m : Nat) (l u : Int) (t g : BitVec 32) (q : Nat) (hq : q < 8) (hb : g.getLsbD q = true) : evFn cx0 ext0 (m + 63) 9 [.bp 1 0, .v (.int .i64 q)] [sup l u false, wds t g (tot t g)] = some (.v (.int .i64 0), [sup l u false, wds t g (tot t g)]) := by
  have c1 := says_c (m + 1) md_nvram_Words_Mark rfl l u false t g (tot t g)
  have c2 := marked_c m md_nvram_Words_Mark rfl l u false t g (tot t g) q hq
  rw [show sayV t g (tot t g) = g from if_pos rfl] at c1 c2
  rw [decide_eq_true rfl] at c1
  rw [hb] at c2
  have c3 : callA (evFn cx0 ext0 (m + 62)) md_nvram_Words_Mark [sup l u false, wds t g (tot t g)] 19 [.v (.int .i64 q)] = some (.v (.bool true), [sup l u false, wds t g (tot t g)]) := by
    rw [callA_frozen rfl]
    show (cf (evFn cx0 ext0 (m + 62)) 19 [.v (.int .i64 q)]).map _ = _
    rw [group_ev, decide_eq_true (by omega)]
    rfl
  rw [E_nvram_Words_Mark]
  refine ends_fin (P := Try.prog) ?_
  unfold F_nvram_Words_Mark
  have stq := (And.intro (c1) (And.intro (c2) (And.intro (c3) (n_tf))))
  repeat first
    | ((with_reducible apply ends_bind); case h => first | (simp only [stp, stq]; first | done | rfl) | rfl)
    | ((with_reducible apply ends_t); case h => first | rfl | (simp only [stp, stq]; done))
    | ((with_reducible apply ends_f); case h => first | rfl | (simp only [stp, stq]; done))
  exact ends_some ⟨.inl rfl, _, rfl, rfl⟩
theorem mark_new (m : Nat) (l u : Int) (hl : l = -1 ∨ (0 ≤ l ∧ l ≤ 4)) (t g : BitVec 32) (q : Nat) (hq : q < 8) (hb : g.getLsbD q = false) : ∃ u', evFn cx0 ext0 (m + 63) 9 [.bp 1 0, .v (.int .i64 q)] [sup l u false, wds t g (tot t g)] = some (.v (.int .i64 (if rds l = 3 then 0 else 20)), [sup (lft l (rds l)) u' (decide (rds l < 3)), wst t g (tot t g) (g ||| one q) (rds l)]) := by
  obtain ⟨u', h⟩ := to_call m md_nvram_Words_Mark rfl l u hl t g (tot t g) (g ||| one q)
  refine ⟨u', ?_⟩
  have c1 := says_c (m + 1) md_nvram_Words_Mark rfl l u false t g (tot t g)
  have c2 := marked_c m md_nvram_Words_Mark rfl l u false t g (tot t g) q hq
  rw [show sayV t g (tot t g) = g from if_pos rfl] at c1 c2
  rw [decide_eq_true rfl] at c1
  rw [hb] at c2
  have c3 : callA (evFn cx0 ext0 (m + 62)) md_nvram_Words_Mark [sup l u false, wds t g (tot t g)] 19 [.v (.int .i64 q)] = some (.v (.bool true), [sup l u false, wds t g (tot t g)]) := by
    rw [callA_frozen rfl]
    show (cf (evFn cx0 ext0 (m + 62)) 19 [.v (.int .i64 q)]).map _ = _
    rw [group_ev, decide_eq_true (by omega)]
    rfl
  have e1 := shl_1 q hq
  have e2 := or32 g (one q)
  rw [E_nvram_Words_Mark]
  refine ends_fin (P := Try.prog) ?_
  unfold F_nvram_Words_Mark
  have stq := (And.intro (c1) (And.intro (c2) (And.intro (c3) (And.intro (n_tf) (And.intro (e1) (And.intro (e2) (h)))))))
  repeat first
    | ((with_reducible apply ends_bind); case h => first | (simp only [stp, stq]; first | done | rfl) | rfl)
    | ((with_reducible apply ends_t); case h => first | rfl | (simp only [stp, stq]; done))
    | ((with_reducible apply ends_f); case h => first | rfl | (simp only [stp, stq]; done))
  exact ends_some ⟨.inl rfl, _, rfl, rfl⟩
/-! ## what the law asks of bits -/
theorem or_one (g : BitVec 32) (q : Nat) (hq : q < 8) : (g ||| one q).getLsbD q = true := by
  unfold one
  simp
  omega
theorem or_ne (g : BitVec 32) (q : Nat) (hq : q < 8) (hb : g.getLsbD q = false) : g ||| one q ≠ g := by
  intro h
  have := or_one g q hq
  rw [h, hb] at this
  simp at this
theorem or_and (g x : BitVec 32) : (g ||| x) &&& g = g := by
  apply BitVec.eq_of_getLsbD_eq
  intro i _
  rw [BitVec.getLsbD_and, BitVec.getLsbD_or]
  cases g.getLsbD i <;> simp
theorem or_low (g : BitVec 32) (q : Nat) (hq : q < 8) (h : g &&& 255#32 = g) : (g ||| one q) &&& 255#32 = g ||| one q := by
  have h1 : one q &&& 255#32 = one q := by
    match q, hq with
    | 0, _ => decide
    | 1, _ => decide
    | 2, _ => decide
    | 3, _ => decide
    | 4, _ => decide
    | 5, _ => decide
    | 6, _ => decide
    | 7, _ => decide
  apply BitVec.eq_of_getLsbD_eq
  intro i hi
  have a := congrArg (fun v => v.getLsbD i) h
  have b := congrArg (fun v => v.getLsbD i) h1
  simp only [BitVec.getLsbD_and] at a b
  rw [BitVec.getLsbD_and, BitVec.getLsbD_or, Bool.and_or_distrib_right, a, b]
end Go.Sy
