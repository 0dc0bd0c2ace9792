/-
  Layer 05's law NvramKeeps as the reader reads it.
-/
import Derived.Test.YtjpbamjmkjmfjaaPfNv4
import Derived.Test.YtjpbamjmkjmfjaaPfBase
namespace Go.Sy
open Go.Proofs Num Crc

abbrev md5 := md_l05_NvramKeeps
theorem rds_inf : rds (-1) = 3 := rfl
theorem lft_inf (i : Nat) : lft (-1) i = -1 := rfl
def zw : BitVec 32 := 0#32
/-- what a call that turns the words leaves, when there is power without end -/
theorem clear_c (m : Nat) (u : Int) (t g s : BitVec 32) : ∃ u', callA (evFn cx0 ext0 (m + 64)) md5 [sup (-1) u false, wds t g s] 8 [.bp 1 0] = some (.v (.int .i64 0), [sup (-1) u' false, wds (t + 1) zw (tot (t + 1) zw)]) := by
  obtain ⟨u', h⟩ := clear_raw m (-1) u (.inl rfl) t g s
  exact ⟨u', by rw [callA_objT rfl h (by simp)]; rfl⟩
theorem keep_c (m : Nat) (u : Int) (t g s k : BitVec 32) (hk : k &&& 255#32 = k) : ∃ u', callA (evFn cx0 ext0 (m + 63)) md5 [sup (-1) u false, wds t g s] 15 [.bp 1 0, v32 k] = some (.v (.int .i64 0), [sup (-1) u' false, wds (t + 1) k (tot (t + 1) k)]) := by
  obtain ⟨u', h⟩ := keep_raw m (-1) u (.inl rfl) t g s k
  rw [hk] at h
  exact ⟨u', by rw [callA_objT rfl h (by simp)]; rfl⟩
theorem mark_c (m : Nat) (u : Int) (t g : BitVec 32) (q : Nat) (hq : q < 8) (hg : g &&& 255#32 = g) : ∃ (u' : Int) (t' g' : BitVec 32), g' &&& 255#32 = g' ∧ callA (evFn cx0 ext0 (m + 63)) md5 [sup (-1) u false, wds t g (tot t g)] 9 [.bp 1 0, .v (.int .i64 q)] = some (.v (.int .i64 0), [sup (-1) u' false, wds t' g' (tot t' g')]) := by
  cases hb : g.getLsbD q
  · obtain ⟨u', h⟩ := mark_new m (-1) u (.inl rfl) t g q hq hb
    exact ⟨u', t + 1, g ||| one q, or_low g q hq hg, by rw [callA_objT rfl h (by simp)]; rfl⟩
  · have h := mark_has m (-1) u t g q hq hb
    exact ⟨u, t, g, hg, by rw [callA_objT rfl h (by simp)]; rfl⟩
theorem new_c (m : Nat) : callA (evFn cx0 ext0 (m + 1)) md5 [] 6 [] = some (.bp 0 0, [sup (-1) 0 false]) := by
  have h : evFn cx0 ext0 (m + 1) 6 [] [] = some (.bp 0 0, [sup (-1) 0 false]) := by kernel_rfl
  unfold callA
  rw [show md5 6 = .objK from rfl]
  exact h
theorem words_c (m : Nat) : callA (evFn cx0 ext0 (m + 1)) md5 [sup (-1) 0 false] 7 [.bp 0 0] = some (.bp 1 0, [sup (-1) 0 false, wds zw zw zw]) := by
  have h : evFn cx0 ext0 (m + 1) 7 [.bp 0 0] [sup (-1) 0 false] = some (.bp 1 0, [sup (-1) 0 false, wds zw zw zw]) := by kernel_rfl
  unfold callA
  rw [show md5 7 = .objK from rfl]
  exact h
theorem restore_c (m : Nat) (l u : Int) (gn : Bool) (t g s : BitVec 32) : callA (evFn cx0 ext0 (m + 1)) md5 [sup l u gn, wds t g s] 13 [.bp 0 0] = some (.tup [], [sup (-1) u false, wds t g s]) := by
  have h : evFn cx0 ext0 (m + 1) 13 [.bp 0 0] [sup l u gn, wds t g s] = some (.tup [], [sup (-1) u false, wds t g s]) := by kernel_rfl
  rw [callA_objT rfl h (by simp)]
  rfl
theorem limit_c (m : Nat) (l u : Int) (gn : Bool) (t g s : BitVec 32) (k : Nat) : callA (evFn cx0 ext0 (m + 1)) md5 [sup l u gn, wds t g s] 12 [.bp 0 0, .v (.int .i64 k)] = some (.v (.int .i64 0), [sup k u gn, wds t g s]) := by
  have h : evFn cx0 ext0 (m + 1) 12 [.bp 0 0, .v (.int .i64 k)] [sup l u gn, wds t g s] = some (.v (.int .i64 0), [sup k u gn, wds t g s]) := by
    have g0 : decide ((k : Int) < 0) = false := decide_eq_false (by omega)
    rw [E_power_Supply_Limit]
    refine ends_fin (P := Try.prog) ?_
    unfold F_power_Supply_Limit
    have stq := (g0)
    repeat first
      | ((with_reducible apply ends_bind); case h => first | (simp only [stp, stq]; first | done | rfl) | rfl)
      | ((with_reducible apply ends_t); case h => first | rfl | (simp only [stp, stq]; done))
      | ((with_reducible apply ends_f); case h => first | rfl | (simp only [stp, stq]; done))
    exact ends_some ⟨.inl rfl, _, rfl, rfl⟩
  rw [callA_objT rfl h (by simp)]
  rfl
theorem among_c (m : Nat) (x : Int) : ∃ q : Nat, q < 8 ∧ ∀ bx, callA (evFn cx0 ext0 (m + 1)) md5 bx 10 [.v (.int .i64 x), .v (.int .i64 8)] = some (.v (.int .i64 q), bx) := by
  obtain ⟨q, hq, h⟩ := among_ev m x 8 (by omega) (by omega)
  refine ⟨q, hq, fun bx => ?_⟩
  rw [callA_frozen rfl]
  have h' : cf (evFn cx0 ext0 (m + 1)) 10 [.v (.int .i64 x), .v (.int .i64 8)] = some (.v (.int .i64 q)) := h
  show (cf (evFn cx0 ext0 (m + 1)) 10 [.v (.int .i64 x), .v (.int .i64 8)]).map _ = _
  rw [h']
  rfl
def il (l : List Int) : List AV := l.map fun x => .v (.int .i64 x)
theorem il_len (l : List Int) : (il l).length = l.length := by simp [il]
theorem fit_ints {a : AV} (h : Fit (.sl [.int .i64]) a) : ∃ xs : List Int, xs.length ≤ maxLen ∧ a = .sl xs.length (il xs) true := by
  cases h with
  | sl row n l hn hl h =>
    simp only [List.length_cons, List.length_nil, Nat.zero_add, Nat.mul_one] at hl
    subst hl
    have : ∃ xs : List Int, l = il xs := by
      clear hn
      induction l with
      | nil => exact ⟨[], rfl⟩
      | cons x l ih =>
        obtain ⟨b, rfl⟩ := ih (fun i y c hy hc => h (i + 1) y c (by simpa using hy) (by simpa [Nat.mod_one] using hc))
        obtain ⟨v, rfl, _⟩ := fit_i64 (h 0 x (.int .i64) rfl (by simp))
        exact ⟨v :: b, rfl⟩
    obtain ⟨xs, rfl⟩ := this
    rw [il_len] at hn ⊢
    exact ⟨xs, hn, rfl⟩
theorem ti : sl1 Try.prog 22 = true := by kernel_rfl
theorem len_i (n : Nat) (l : List AV) : lenA Try.prog 22 (.sl n l true) = some (.v (.int .i64 (n : Int))) := by kernel_rfl
theorem ld_ii (bx : Bx) (x : AV) (r : List AV) : loadA Try.prog 3 bx (.ip (x :: r) true) = some x := by kernel_rfl
theorem cv_8i (bx : Bx) (x : Nat) (h : x < 256) : convA Try.prog bx 5 3 (.v (.int .u8 x)) = some (.v (.int .i64 (x : Int)), bx) := by
  have e : convA Try.prog bx 5 3 (.v (.int .u8 x)) = some (.v (.int .i64 (IntKind.i64.wrap (x : Int))), bx) := by kernel_rfl
  have w : IntKind.i64.wrap (x : Int) = x := by rw [wrap64]; omega
  rw [e, w]
/-- a byte as a word -/
def nb (x : UInt8) : BitVec 32 := x.toBitVec.setWidth 32
theorem nb_low (x : UInt8) : nb x &&& 255#32 = nb x := by
  unfold nb
  apply BitVec.eq_of_toNat_eq
  have := UInt8.toNat_lt x
  rw [BitVec.toNat_and, show (255#32).toNat = 2 ^ 8 - 1 from rfl, Nat.and_two_pow_sub_one_eq_mod, BitVec.toNat_setWidth]
  show x.toNat % 2 ^ 32 % 2 ^ 8 = x.toNat % 2 ^ 32
  omega
theorem cv_8w (bx : Bx) (x : UInt8) : convA Try.prog bx 5 32 (u8 x) = some (v32 (nb x), bx) := by
  have e : convA Try.prog bx 5 32 (u8 x) = some (.v (.int .u32 (IntKind.u32.wrap (x.toNat : Int))), bx) := by kernel_rfl
  rw [e, wide8]
  rfl
theorem rem5 (x : UInt8) : binA Try.prog .rem 5 (u8 x) (.v (.int .u8 5)) = some (.v (.int .u8 ((x.toNat % 5 : Nat) : Int))) := by
  have h : binA Try.prog .rem 5 (u8 x) (.v (.int .u8 5)) = some (.v (.int .u8 ((x.toNat : Int).tmod 5))) := by kernel_rfl
  have e : (x.toNat : Int).tmod 5 = ((x.toNat % 5 : Nat) : Int) := by rw [Int.tmod_eq_emod_of_nonneg (by omega)]; omega
  rw [h, e]
theorem and_self (g : BitVec 32) : g &&& g = g := BitVec.and_self
theorem full_and (g : BitVec 32) (h : g &&& 255#32 = g) : 255#32 &&& g = g := by rw [BitVec.and_comm]; exact h
set_option maxRecDepth 100000 in
theorem keeps_ev (xs : List Int) (gx : Int) (x : UInt8) : cf (evFn cx0 ext0 1000) 3 [.sl xs.length (il xs) true, .v (.int .i64 gx), u8 x] = some (.v (.bool true)) := by
  have hw : callA (evFn cx0 ext0 999) md5 [] 5 [] = some (.v (.bool true), []) := by
    rw [callA_frozen rfl]
    simp only [List.map_nil, works_at 999 (by omega), Option.map_some]
  have c1 := new_c 998
  have c2 := words_c 998
  obtain ⟨u0, c3⟩ := clear_c 935 0 zw zw zw
  have z0 : ((0 : Int) != 0) = false := rfl
  have z1 : ((0 : Int) == 0) = true := rfl
  unfold cf
  rw [E_l05_NvramKeeps]
  refine ends_cf (P := Try.prog) ?_
  unfold F_l05_NvramKeeps
  have stq := (And.intro (hw) (And.intro (n_tf) (And.intro (c1) (And.intro (c2) (And.intro (c3) (z0))))))
  repeat first
    | ((with_reducible apply ends_bind); case h => first | (simp only [stp, stq]; first | done | rfl) | rfl)
    | ((with_reducible apply ends_t); case h => first | rfl | (simp only [stp, stq]; done))
    | ((with_reducible apply ends_f); case h => first | rfl | (simp only [stp, stq]; done))
  refine ends_loop (fun d st => ∃ (i : Nat) (u : Int) (t g : BitVec 32) (y28 y22 y6 : AV) (b0 b1 : List AV), st = ⟨[(9, .v (.int .i64 i)), (28, y28), (8, .bp 1 0), (7, .bp 0 0), (22, y22), (6, y6), (0, .sl xs.length (il xs) true), (1, .v (.int .i64 gx)), (2, u8 x)], [b0, b1]⟩ ∧
    b0 = sup (-1) u false ∧ b1 = wds t g (tot t g) ∧ g &&& 255#32 = g ∧ i + d = min xs.length 20) (min xs.length 20) (by omega) ⟨0, u0, _, _, _, _, _, _, _, rfl, rfl, rfl, by decide, by omega⟩ ?_
  rintro d st ⟨i, u, t, g, y28, y22, y6, b0, b1, rfl, rfl, rfl, hg, hd⟩
  refine L_l05_NvramKeeps_0_lit ?_
  unfold B_l05_NvramKeeps_0
  have ln := len_i xs.length (il xs)
  rcases d with _ | d
  · -- behind the loop
    have hend : Ends (X_l05_NvramKeeps_0_0 (evFn cx0 ext0 999) 999 0 (.v (.bool false)) (.v (.int .i64 i)) y28 (.bp 1 0) (.bp 0 0) y22 y6 (.sl xs.length (il xs) true) (.v (.int .i64 gx)) (u8 x) [sup (-1) u false, wds t g (tot t g)]) (RetQ Try.prog [.tmp 6] (.v (.bool true))) := by
      unfold X_l05_NvramKeeps_0_0
      have s1 := says_c 938 md5 rfl (-1) u false t g (tot t g)
      rw [show sayV t g (tot t g) = g from if_pos rfl, decide_eq_true rfl] at s1
      have r5 := rem5 x
      have hk5 : x.toNat % 5 < 5 := by omega
      have cv5 := fun bx => cv_8i bx (x.toNat % 5) (by omega)
      have lm := limit_c 998 (-1) u false t g (tot t g) (x.toNat % 5)
      obtain ⟨q, hq, am⟩ := among_c 998 gx
      have hl : ((x.toNat % 5 : Nat) : Int) = -1 ∨ (0 ≤ ((x.toNat % 5 : Nat) : Int) ∧ ((x.toNat % 5 : Nat) : Int) ≤ 4) := .inr ⟨by omega, by omega⟩
      generalize x.toNat % 5 = k5 at *
      have cvw := fun bx => cv_8w bx x
      have nl := nb_low x
      have ib : ∀ v : BitVec 32, (i32 v == i32 v) = true := fun v => by simp
      have inb : ∀ v : BitVec 32, (i32 v != i32 v) = false := fun v => by simp
      have iz : (i32 zw == 0) = true := rfl
      -- what comes behind the cut, from any words
      have tail : ∀ (u1 : Int) (t1 g1 s1 : BitVec 32), ∃ u2 u3, callA (evFn cx0 ext0 999) md5 [sup (-1) u1 false, wds t1 g1 s1] 8 [.bp 1 0] = some (.v (.int .i64 0), [sup (-1) u2 false, wds (t1 + 1) zw (tot (t1 + 1) zw)]) ∧
          callA (evFn cx0 ext0 999) md5 [sup (-1) u2 false, wds (t1 + 1) zw (tot (t1 + 1) zw)] 11 [.bp 1 0] = some (.tup [v32 zw, .v (.bool true)], [sup (-1) u2 false, wds (t1 + 1) zw (tot (t1 + 1) zw)]) ∧
          callA (evFn cx0 ext0 999) md5 [sup (-1) u2 false, wds (t1 + 1) zw (tot (t1 + 1) zw)] 15 [.bp 1 0, v32 (nb x)] = some (.v (.int .i64 0), [sup (-1) u3 false, wds (t1 + 1 + 1) (nb x) (tot (t1 + 1 + 1) (nb x))]) ∧
          callA (evFn cx0 ext0 999) md5 [sup (-1) u3 false, wds (t1 + 1 + 1) (nb x) (tot (t1 + 1 + 1) (nb x))] 11 [.bp 1 0] = some (.tup [v32 (nb x), .v (.bool true)], [sup (-1) u3 false, wds (t1 + 1 + 1) (nb x) (tot (t1 + 1 + 1) (nb x))]) := by
        intro u1 t1 g1 s1
        obtain ⟨u2, h1⟩ := clear_c 935 u1 t1 g1 s1
        obtain ⟨u3, h2⟩ := keep_c 936 u2 (t1 + 1) zw (tot (t1 + 1) zw) (nb x) nl
        have h3 := says_c 938 md5 rfl (-1) u2 false (t1 + 1) zw (tot (t1 + 1) zw)
        rw [show sayV (t1 + 1) zw (tot (t1 + 1) zw) = zw from if_pos rfl, decide_eq_true rfl] at h3
        have h4 := says_c 938 md5 rfl (-1) u3 false (t1 + 1 + 1) (nb x) (tot (t1 + 1 + 1) (nb x))
        rw [show sayV (t1 + 1 + 1) (nb x) (tot (t1 + 1 + 1) (nb x)) = nb x from if_pos rfl, decide_eq_true rfl] at h4
        exact ⟨u2, u3, h1, h3, h2, h4⟩
      cases hb : g.getLsbD q
      · obtain ⟨u1, mk⟩ := mark_new 936 (k5 : Int) u hl t g q hq hb
        have mk : callA (evFn cx0 ext0 999) md5 [sup (k5 : Int) u false, wds t g (tot t g)] 9 [.bp 1 0, .v (.int .i64 q)] = some (.v (.int .i64 (if rds k5 = 3 then 0 else 20)), [sup (lft k5 (rds k5)) u1 (decide (rds k5 < 3)), wst t g (tot t g) (g ||| one q) (rds k5)]) := by
          have hws : ∃ a b c, wst t g (tot t g) (g ||| one q) (rds k5) = wds a b c := by
            unfold wst
            split
            · exact ⟨_, _, _, rfl⟩
            · exact ⟨_, _, _, rfl⟩
            · exact ⟨_, _, _, rfl⟩
            · exact ⟨_, _, _, rfl⟩
          obtain ⟨a, b, c, hws⟩ := hws
          rw [hws] at mk ⊢
          rw [callA_objT rfl mk (by simp)]
          rfl
        by_cases h3 : rds (k5 : Int) = 3
        · -- it was marked
          rw [h3] at mk
          rw [if_pos rfl] at mk
          have mk' : callA (evFn cx0 ext0 999) md5 [sup (k5 : Int) u false, wds t g (tot t g)] 9 [.bp 1 0, .v (.int .i64 q)] = some (.v (.int .i64 0), [sup (lft k5 3) u1 false, wds (t + 1) (g ||| one q) (tot (t + 1) (g ||| one q))]) := mk
          have s2 := says_c 938 md5 rfl (lft k5 3) u1 false (t + 1) (g ||| one q) (tot (t + 1) (g ||| one q))
          rw [show sayV (t + 1) (g ||| one q) (tot (t + 1) (g ||| one q)) = g ||| one q from if_pos rfl, decide_eq_true rfl] at s2
          have rs := restore_c 998 (lft k5 3) u1 false (t + 1) (g ||| one q) (tot (t + 1) (g ||| one q))
          have mc := marked_c 937 md5 rfl (-1) u1 false (t + 1) (g ||| one q) (tot (t + 1) (g ||| one q)) q hq
          rw [show sayV (t + 1) (g ||| one q) (tot (t + 1) (g ||| one q)) = g ||| one q from if_pos rfl, or_one g q hq] at mc
          obtain ⟨u2, u3, t1, t2, t3, t4⟩ := tail u1 (t + 1) (g ||| one q) (tot (t + 1) (g ||| one q))
          have ag := and32 (g ||| one q) g
          rw [or_and] at ag
          have stq := (And.intro (s1) (And.intro (r5) (And.intro (cv5) (And.intro (lm) (And.intro (am) (And.intro (mk') (And.intro (s2) (And.intro (rs) (And.intro (z1) (And.intro (z0) (And.intro (mc) (And.intro (n_tf) (And.intro (ag) (And.intro (inb) (And.intro (t1) (And.intro (t2) (And.intro (cvw) (And.intro (t3) (And.intro (t4) (And.intro (iz) (ib)))))))))))))))))))))
          repeat first
            | ((with_reducible apply ends_bind); case h => first | (simp only [stp, stq]; first | done | rfl) | rfl)
            | ((with_reducible apply ends_t); case h => first | rfl | (simp only [stp, stq]; done))
            | ((with_reducible apply ends_f); case h => first | rfl | (simp only [stp, stq]; done))
          exact ends_some ⟨.inl rfl, _, rfl, rfl⟩
        · -- the power went
          have h4 : rds (k5 : Int) < 3 := by rcases ln3 k5 with h | h <;> omega
          rw [if_neg h3, decide_eq_true h4] at mk
          have hws : ∃ t1 g1 s1, wst t g (tot t g) (g ||| one q) (rds k5) = wds t1 g1 s1 ∧ (g1 = g ∨ g1 = g ||| one q) := by
            generalize rds (k5 : Int) = r at h4
            match r, h4 with
            | 0, _ => exact ⟨_, _, _, rfl, .inl rfl⟩
            | 1, _ => exact ⟨_, _, _, rfl, .inr rfl⟩
            | 2, _ => exact ⟨_, _, _, rfl, .inr rfl⟩
          obtain ⟨t1, g1, w1, hws, hg1⟩ := hws
          rw [hws] at mk
          have s2 := says_c 938 md5 rfl (lft k5 (rds k5)) u1 true t1 g1 w1
          have rs := restore_c 998 (lft k5 (rds k5)) u1 true t1 g1 w1
          obtain ⟨u2, u3, t1', t2, t3, t4⟩ := tail u1 t1 g1 w1
          have y0 : ((20 : Int) == 0) = false := rfl
          have y1 : ((20 : Int) != 0) = true := rfl
          by_cases hr : w1 = tot t1 g1
          · rw [show sayV t1 g1 w1 = g1 from if_pos hr, decide_eq_true hr] at s2
            by_cases hgg : g1 = g
            · subst hgg
              have ag := and32 g1 g1
              rw [and_self] at ag
              have stq := (And.intro (s1) (And.intro (r5) (And.intro (cv5) (And.intro (lm) (And.intro (am) (And.intro (mk) (And.intro (s2) (And.intro (rs) (And.intro (y0) (And.intro (y1) (And.intro (ag) (And.intro (inb) (And.intro (t1') (And.intro (t2) (And.intro (cvw) (And.intro (t3) (And.intro (t4) (And.intro (iz) (And.intro (ib) (z1))))))))))))))))))))
              repeat first
                | ((with_reducible apply ends_bind); case h => first | (simp only [stp, stq]; first | done | rfl) | rfl)
                | ((with_reducible apply ends_t); case h => first | rfl | (simp only [stp, stq]; done))
                | ((with_reducible apply ends_f); case h => first | rfl | (simp only [stp, stq]; done))
              exact ends_some ⟨.inl rfl, _, rfl, rfl⟩
            · have ne : (i32 g1 != i32 g) = true := by
                have : ¬ i32 g1 = i32 g := fun h => hgg (i32_inj h)
                simpa using this
              have stq := (And.intro (s1) (And.intro (r5) (And.intro (cv5) (And.intro (lm) (And.intro (am) (And.intro (mk) (And.intro (s2) (And.intro (rs) (And.intro (y0) (And.intro (y1) (ne)))))))))))
              repeat first
                | ((with_reducible apply ends_bind); case h => first | (simp only [stp, stq]; first | done | rfl) | rfl)
                | ((with_reducible apply ends_t); case h => first | rfl | (simp only [stp, stq]; done))
                | ((with_reducible apply ends_f); case h => first | rfl | (simp only [stp, stq]; done))
              exact ends_some ⟨.inl rfl, _, rfl, rfl⟩
          · rw [show sayV t1 g1 w1 = 255#32 from if_neg hr, decide_eq_false hr] at s2
            have ag := and32 255#32 g
            rw [full_and g hg] at ag
            have stq := (And.intro (s1) (And.intro (r5) (And.intro (cv5) (And.intro (lm) (And.intro (am) (And.intro (mk) (And.intro (s2) (And.intro (rs) (And.intro (y0) (And.intro (y1) (And.intro (ag) (And.intro (inb) (And.intro (t1') (And.intro (t2) (And.intro (cvw) (And.intro (t3) (And.intro (t4) (And.intro (iz) (And.intro (ib) (z1))))))))))))))))))))
            repeat first
              | ((with_reducible apply ends_bind); case h => first | (simp only [stp, stq]; first | done | rfl) | rfl)
              | ((with_reducible apply ends_t); case h => first | rfl | (simp only [stp, stq]; done))
              | ((with_reducible apply ends_f); case h => first | rfl | (simp only [stp, stq]; done))
            exact ends_some ⟨.inl rfl, _, rfl, rfl⟩
      · have mk0 := mark_has 936 (k5 : Int) u t g q hq hb
        have mk : callA (evFn cx0 ext0 999) md5 [sup (k5 : Int) u false, wds t g (tot t g)] 9 [.bp 1 0, .v (.int .i64 q)] = some (.v (.int .i64 0), [sup (k5 : Int) u false, wds t g (tot t g)]) := by
          rw [callA_objT rfl mk0 (by simp)]
          rfl
        have s2 := says_c 938 md5 rfl (k5 : Int) u false t g (tot t g)
        rw [show sayV t g (tot t g) = g from if_pos rfl, decide_eq_true rfl] at s2
        have rs := restore_c 998 (k5 : Int) u false t g (tot t g)
        have mc := marked_c 937 md5 rfl (-1) u false t g (tot t g) q hq
        rw [show sayV t g (tot t g) = g from if_pos rfl, hb] at mc
        obtain ⟨u2, u3, t1, t2, t3, t4⟩ := tail u t g (tot t g)
        have ag := and32 g g
        rw [and_self] at ag
        have stq := (And.intro (s1) (And.intro (r5) (And.intro (cv5) (And.intro (lm) (And.intro (am) (And.intro (mk) (And.intro (s2) (And.intro (rs) (And.intro (z1) (And.intro (z0) (And.intro (mc) (And.intro (n_tf) (And.intro (ag) (And.intro (inb) (And.intro (t1) (And.intro (t2) (And.intro (cvw) (And.intro (t3) (And.intro (t4) (And.intro (iz) (ib)))))))))))))))))))))
        repeat first
          | ((with_reducible apply ends_bind); case h => first | (simp only [stp, stq]; first | done | rfl) | rfl)
          | ((with_reducible apply ends_t); case h => first | rfl | (simp only [stp, stq]; done))
          | ((with_reducible apply ends_f); case h => first | rfl | (simp only [stp, stq]; done))
        exact ends_some ⟨.inl rfl, _, rfl, rfl⟩
    by_cases hx : i < xs.length
    · have g2 : decide ((i : Int) < (xs.length : Int)) = true := decide_eq_true (by omega)
      have g3 : decide ((i : Int) < 20) = false := decide_eq_false (by omega)
      have stq := (And.intro (ln) (And.intro (g2) (g3)))
      repeat first
        | ((with_reducible apply ends_bind); case h => first | (simp only [stp, stq]; first | done | rfl) | rfl)
        | ((with_reducible apply ends_t); case h => first | rfl | (simp only [stp, stq]; done))
        | ((with_reducible apply ends_f); case h => first | rfl | (simp only [stp, stq]; done))
      exact ends_some (.inr (.inl ⟨0, rfl, X_l05_NvramKeeps_0_0_lit hend⟩))
    · have g2 : decide ((i : Int) < (xs.length : Int)) = false := decide_eq_false (by omega)
      have stq := (And.intro (ln) (g2))
      repeat first
        | ((with_reducible apply ends_bind); case h => first | (simp only [stp, stq]; first | done | rfl) | rfl)
        | ((with_reducible apply ends_t); case h => first | rfl | (simp only [stp, stq]; done))
        | ((with_reducible apply ends_f); case h => first | rfl | (simp only [stp, stq]; done))
      exact ends_some (.inr (.inl ⟨0, rfl, X_l05_NvramKeeps_0_0_lit hend⟩))
  · have g2 : decide ((i : Int) < (xs.length : Int)) = true := decide_eq_true (by omega)
    have g3 : decide ((i : Int) < 20) = true := decide_eq_true (by omega)
    have hi : i < (il xs).length := by rw [il_len]; omega
    have x1 := idx_sl1 ti (il xs) xs.length (il_len xs).symm true .i64 i hi
    have hxi : (il xs)[i] = .v (.int .i64 (xs[i]'(by rw [il_len] at hi; exact hi))) := by simp [il]
    rw [hxi] at x1
    obtain ⟨q, hq, am⟩ := among_c 998 (xs[i]'(by rw [il_len] at hi; exact hi))
    have l1 := fun bx => ld_ii bx (.v (.int .i64 (xs[i]'(by rw [il_len] at hi; exact hi)))) ((il xs).drop (i + 1))
    obtain ⟨u', t', g', hg', mk⟩ := mark_c 936 u t g q hq hg
    have e3 : IntKind.i64.wrap ((i : Int) + 1) = ((i + 1 : Nat) : Int) := by rw [wrap64]; omega
    have stq := (And.intro (ln) (And.intro (g2) (And.intro (g3) (And.intro (x1) (And.intro (l1) (And.intro (am) (And.intro (mk) (e3))))))))
    repeat first
      | ((with_reducible apply ends_bind); case h => first | (simp only [stp, stq]; first | done | rfl) | rfl)
      | ((with_reducible apply ends_t); case h => first | rfl | (simp only [stp, stq]; done))
      | ((with_reducible apply ends_f); case h => first | rfl | (simp only [stp, stq]; done))
    exact ends_some (.inl ⟨rfl, d, by omega, i + 1, u', t', g', _, _, _, _, _, by first | rfl | (rw [← e3]; rfl), rfl, rfl, hg', by omega⟩)
end Go.Sy
