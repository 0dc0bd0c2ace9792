/-
  Layer 12: an entry's bytes, slots, and loads with entries.
-/
import Derived.Test.YtmegbgmgpogfoaaLwDir
import Derived.Test.YtmegbgmgpogfoaaPfNum
import Derived.Test.YtmegbgmgpogfoaaSyArr
namespace Go.Sy
open Go.Proofs Go.Proofs.Ytmegbgmgpogfoaa Num

theorem hL : arr8 Try.prog 37 54 = true := by kernel_rfl
theorem h13 : arr8 Try.prog 24 13 = true := by kernel_rfl
theorem hTwo : arr8 Try.prog 53 2 = true := by kernel_rfl
theorem sz8 : szA Try.prog 5 = some 1 := by kernel_rfl
theorem ag8 : agA Try.prog 5 = some false := by kernel_rfl
abbrev zero (n : Nat) : List UInt8 := List.replicate n 0
theorem wsm {x : Int} (h1 : -4611686018427387904 ≤ x) (h2 : x ≤ 4611686018427387904) : IntKind.i64.wrap x = x := by rw [wrap64]; omega
theorem beq_self (l : List UInt8) : (l == l) = true := by simp
theorem retq_ct {P : Program} {a t u : Nat} {env : Env} {bx : Bx} {x x' : AV} (hl : loadA P t bx (get env a) = some x) (hx : frz bx false 5 x = x') : RetQ P [.cell a t, .tmp u] (.tup [x', frz bx false 5 (get env u)]) .ret ⟨env, bx⟩ := by
  refine ⟨.inl rfl, [x, get env u], ?_, ?_⟩
  · simp only [resL, hl, Option.bind_some, Option.map_some]
  · show AV.tup [frz bx false 5 x, frz bx false 5 (get env u)] = _
    rw [hx]
theorem retq_ctt {P : Program} {a t u v : Nat} {env : Env} {bx : Bx} {x x' : AV} (hl : loadA P t bx (get env a) = some x) (hx : frz bx false 5 x = x') : RetQ P [.cell a t, .tmp u, .tmp v] (.tup [x', frz bx false 5 (get env u), frz bx false 5 (get env v)]) .ret ⟨env, bx⟩ := by
  refine ⟨.inl rfl, [x, get env u, get env v], ?_, ?_⟩
  · simp only [resL, hl, Option.bind_some, Option.map_some]
  · show AV.tup [frz bx false 5 x, frz bx false 5 (get env u), frz bx false 5 (get env v)] = _
    rw [hx]

/-- an entry's cells -/
def ent (n : Int) (s : ByteArray) : List AV := [.v (.int .i64 n), .v (.string s)]
def zE : List AV := ent 0 ⟨#[]⟩
theorem box_e (bx : Bx) (n : Int) (s : ByteArray) : boxA bx (.agg (ent n s)) = some (.bp bx.length 0, bx ++ [ent n s]) := rfl
theorem al_e (bx : Bx) : allocA Try.prog bx 23 = some (.bp bx.length 0, bx ++ [zE]) := by kernel_rfl
theorem z_e : buildA Try.prog 23 [] = some (.agg zE) := by kernel_rfl
theorem b_e (n : Int) (s : ByteArray) : buildA Try.prog 23 [(0, .v (.int .i64 n)), (1, .v (.string s))] = some (.agg (ent n s)) := by kernel_rfl
theorem frz_e (bx : Bx) (f : Bool) (n : Int) (s : ByteArray) : frz bx f 6 (.agg (ent n s)) = .agg (ent n s) := rfl
theorem frz_e5 (bx : Bx) (f : Bool) (n : Int) (s : ByteArray) : frz bx f 5 (.agg (ent n s)) = .agg (ent n s) := rfl
theorem ld_e (A B C D E : List AV) (n : Int) (s : ByteArray) (r : Bx) : loadA Try.prog 23 (ent n s :: r) (.bp 0 0) = some (.agg (ent n s)) ∧ loadA Try.prog 23 (A :: ent n s :: r) (.bp 1 0) = some (.agg (ent n s)) ∧ loadA Try.prog 23 (A :: B :: ent n s :: r) (.bp 2 0) = some (.agg (ent n s)) ∧ loadA Try.prog 23 (A :: B :: C :: ent n s :: r) (.bp 3 0) = some (.agg (ent n s)) ∧ loadA Try.prog 23 (A :: B :: C :: D :: ent n s :: r) (.bp 4 0) = some (.agg (ent n s)) ∧ loadA Try.prog 23 (A :: B :: C :: D :: E :: ent n s :: r) (.bp 5 0) = some (.agg (ent n s)) := ⟨by kernel_rfl, by kernel_rfl, by kernel_rfl, by kernel_rfl, by kernel_rfl, by kernel_rfl⟩
theorem fl_e (n : Int) (s : ByteArray) (A : List AV) (r : Bx) : loadA Try.prog 3 (ent n s :: r) (.bp 0 0) = some (.v (.int .i64 n)) ∧ loadA Try.prog 9 (ent n s :: r) (.bp 0 1) = some (.v (.string s)) ∧ loadA Try.prog 3 (A :: ent n s :: r) (.bp 1 0) = some (.v (.int .i64 n)) ∧ loadA Try.prog 9 (A :: ent n s :: r) (.bp 1 1) = some (.v (.string s)) := ⟨by kernel_rfl, by kernel_rfl, by kernel_rfl, by kernel_rfl⟩
theorem st_e (A B C D E : List AV) (n n' : Int) (s s' : ByteArray) (r : Bx) : stA Try.prog 23 (A :: ent n s :: r) (.bp 1 0) (.agg (ent n' s')) = some (.v undef, A :: ent n' s' :: r) ∧ stA Try.prog 23 (A :: B :: ent n s :: r) (.bp 2 0) (.agg (ent n' s')) = some (.v undef, A :: B :: ent n' s' :: r) ∧ stA Try.prog 23 (A :: B :: C :: ent n s :: r) (.bp 3 0) (.agg (ent n' s')) = some (.v undef, A :: B :: C :: ent n' s' :: r) ∧ stA Try.prog 23 (A :: B :: C :: D :: ent n s :: r) (.bp 4 0) (.agg (ent n' s')) = some (.v undef, A :: B :: C :: D :: ent n' s' :: r) ∧ stA Try.prog 23 (A :: B :: C :: D :: E :: ent n s :: r) (.bp 5 0) (.agg (ent n' s')) = some (.v undef, A :: B :: C :: D :: E :: ent n' s' :: r) := ⟨by kernel_rfl, by kernel_rfl, by kernel_rfl, by kernel_rfl, by kernel_rfl⟩

/-- an entry's bytes -/
def eb (n : Nat) (l : List UInt8) : List UInt8 := p16 n ++ [UInt8.ofNat l.length] ++ l ++ zero (10 - l.length)
theorem eb_len (n : Nat) (l : List UInt8) (h : l.length ≤ 10) : (eb n l).length = 13 := by
  unfold eb
  simp [p16]
  omega
theorem name_len {l : List UInt8} (h : isName l = true) : 1 ≤ l.length ∧ l.length ≤ 10 := by
  unfold isName at h
  simp only [Bool.and_eq_true, decide_eq_true_eq] at h
  exact ⟨h.1.1.1.1, h.1.1.1.2⟩
def okE (n : Int) (l : List UInt8) : Bool := decide (1 ≤ n) && decide (n ≤ 65535) && isName l
def putV (n : Int) (l : List UInt8) : AV := if okE n l then .tup [.agg (u8l (eb n.toNat l)), .v (.int .i64 0)] else .tup [.agg (u8l (zero 13)), .v (.int .i64 (if n < 1 ∨ 65535 < n then 2 else 45))]
theorem cv_16 (bx : Bx) (n : Nat) (h : n < 65536) : convA Try.prog bx 3 55 (.v (.int .i64 n)) = some (.v (.int .u16 n), bx) := by
  have e : convA Try.prog bx 3 55 (.v (.int .i64 n)) = some (.v (.int .u16 (IntKind.u16.wrap n)), bx) := by kernel_rfl
  have w : IntKind.u16.wrap (n : Int) = n := by rw [wrap16]; omega
  rw [e, w]
theorem cv_len (bx : Bx) (n : Nat) (h : n < 256) : convA Try.prog bx 3 5 (.v (.int .i64 n)) = some (u8 (UInt8.ofNat n), bx) := by
  have e : convA Try.prog bx 3 5 (.v (.int .i64 n)) = some (.v (.int .u8 (IntKind.u8.wrap n)), bx) := by kernel_rfl
  rw [e, wr8]
theorem Put_ev {k : Nat} (hk : 30 ≤ k) (n : Int) (s : ByteArray) : cf (evFn cx0 ext0 k) 8 [.agg (ent n s)] = some (putV n s.data.toList) := by
  obtain ⟨m, rfl⟩ : ∃ m, k = m + 2 := ⟨k - 2, by omega⟩
  have c1 : cf (evFn cx0 ext0 (m + 1)) 11 [.v (.string s)] = _ := check_ev m s
  have a13 := al_a h13
  have zl : (zero 13).length = 13 := rfl
  have fl := fun r => fl_e n s [] r
  have z0 := ld_a h13 (P := Try.prog) (bx := [ent n s, u8l (zero 13), u8l (zero 13)]) (k := 2) (b := zero 13) rfl zl
  have s0 := st_a h13 (P := Try.prog) (bx := [ent n s, u8l (zero 13), u8l (zero 13)]) (k := 1) (b := zero 13) (c := zero 13) rfl zl zl
  simp only [List.set_cons_succ, List.set_cons_zero] at s0
  unfold cf
  rw [E_dirent_Put]
  refine ends_cf (P := Try.prog) ?_
  unfold F_dirent_Put
  unfold putV okE
  by_cases h1 : n < 1
  · have g1 : decide (n < 1) = true := decide_eq_true h1
    rw [decide_eq_false (show ¬ 1 ≤ n by omega), if_neg (by simp), if_pos (.inl h1)]
    have stq := (And.intro (box_e) (And.intro (a13) (And.intro (fl) (And.intro (g1) (And.intro (z0) (s0))))))
    repeat first
      | ((with_reducible apply ends_bind); case h => first | (simp only [stp, stq]; first | done | rfl) | rfl)
      | ((with_reducible apply ends_t); case h => first | rfl | (simp only [stp, stq]; done))
      | ((with_reducible apply ends_f); case h => first | rfl | (simp only [stp, stq]; done))
    exact ends_some (retq_ct (ld_a h13 (b := zero 13) rfl zl) (frz_agg _ _ _ _))
  have g1 : decide (n < 1) = false := decide_eq_false h1
  by_cases h2 : 65535 < n
  · have g2 : decide (65535 < n) = true := decide_eq_true h2
    rw [decide_eq_false (show ¬ n ≤ 65535 by omega), if_neg (by simp), if_pos (.inr h2)]
    have stq := (And.intro (box_e) (And.intro (a13) (And.intro (fl) (And.intro (g1) (And.intro (g2) (And.intro (z0) (s0)))))))
    repeat first
      | ((with_reducible apply ends_bind); case h => first | (simp only [stp, stq]; first | done | rfl) | rfl)
      | ((with_reducible apply ends_t); case h => first | rfl | (simp only [stp, stq]; done))
      | ((with_reducible apply ends_f); case h => first | rfl | (simp only [stp, stq]; done))
    exact ends_some (retq_ct (ld_a h13 (b := zero 13) rfl zl) (frz_agg _ _ _ _))
  have g2 : decide (65535 < n) = false := decide_eq_false h2
  rw [decide_eq_true (show 1 ≤ n by omega), decide_eq_true (show n ≤ 65535 by omega)]
  simp only [Bool.true_and]
  unfold Ytmegbgmgpogfoaa.chk at c1
  cases hn : isName s.data.toList
  · rw [hn] at c1
    rw [if_neg (by simp), if_neg (by omega)]
    have g3 : ((45 : Int) != 0) = true := rfl
    have c1' : cf (evFn cx0 ext0 (m + 1)) 11 [.v (.string s)] = some (.v (.int .i64 45)) := c1
    have stq := (And.intro (box_e) (And.intro (a13) (And.intro (fl) (And.intro (g1) (And.intro (g2) (And.intro (z0) (And.intro (s0) (And.intro (c1') (g3)))))))))
    repeat first
      | ((with_reducible apply ends_bind); case h => first | (simp only [stp, stq]; first | done | rfl) | rfl)
      | ((with_reducible apply ends_t); case h => first | rfl | (simp only [stp, stq]; done))
      | ((with_reducible apply ends_f); case h => first | rfl | (simp only [stp, stq]; done))
    exact ends_some (retq_ct (ld_a h13 (b := zero 13) rfl zl) (frz_agg _ _ _ _))
  · rw [hn] at c1
    rw [if_pos rfl]
    have g3 : ((0 : Int) != 0) = false := rfl
    have c1' : cf (evFn cx0 ext0 (m + 1)) 11 [.v (.string s)] = some (.v (.int .i64 0)) := c1
    obtain ⟨l1, l2⟩ := name_len hn
    have hsz : s.data.toList.length = s.size := rfl
    obtain ⟨i, rfl⟩ : ∃ i : Nat, n = i := ⟨n.toNat, by omega⟩
    rw [Int.toNat_natCast]
    have c2 : cf (evFn cx0 ext0 (m + 1)) 28 [.v (.int .u16 i)] = some (.agg (u8l (p16 i))) := put16_ev m i
    have cv := fun bx => cv_16 bx i (by omega)
    have cl := fun bx => cv_len bx s.size (by omega)
    have ls := len_s s
    have a2 := al_a hTwo
    have zl2 : (zero 2).length = 2 := rfl
    have hp2 : (p16 i).length = 2 := rfl
    have s2 := st_a hTwo (P := Try.prog) (bx := [ent i s, u8l (zero 13), u8l (zero 13), u8l (zero 2)]) (k := 3) (b := zero 2) (c := p16 i) rfl zl2 hp2
    simp only [List.set_cons_succ, List.set_cons_zero] at s2
    have q1 := sl_a h13 (P := Try.prog) (bx := [ent i s, u8l (zero 13), u8l (zero 13), u8l (p16 i)]) (k := 2) (b := zero 13) rfl zl
    have q2 := sl_a hTwo (P := Try.prog) (bx := [ent i s, u8l (zero 13), u8l (zero 13), u8l (p16 i)]) (k := 3) (b := p16 i) rfl hp2
    have y1 : readA [ent i s, u8l (zero 13), u8l (zero 13), u8l (p16 i)] (.bsl 3 0 2 1) = some ((p16 i).length, u8l (p16 i)) := by
      rw [rd_b (b := p16 i) rfl, hp2, List.drop_zero, List.take_of_length_le (by omega)]
    have cp := cp_b t8 (bx := [ent i s, u8l (zero 13), u8l (zero 13), u8l (p16 i)]) (k := 2) (off := 0) (n := 13) (b := zero 13) (d := p16 i) (y := .bsl 3 0 2 1) rfl (by simp) y1 (by simp [hp2])
    have hb1 : (zero 13).take 0 ++ p16 i ++ (zero 13).drop (0 + (p16 i).length) = p16 i ++ zero 11 := by rw [hp2]; rfl
    rw [hb1] at cp
    simp only [List.set_cons_succ, List.set_cons_zero] at cp
    have x2 : indexAddrA Try.prog 24 (.bp 2 0) (.v (.int .i64 2)) = some (.bp 2 2) := ix_a h13 (P := Try.prog) 2 0 .i64 2 (by omega)
    have t2 := st_b8 sz8 [ent i s, u8l (zero 13), u8l (p16 i ++ zero 11), u8l (p16 i)] 2 2 (p16 i ++ zero 11) (UInt8.ofNat s.size) rfl (by simp [hp2])
    have hb2 : (p16 i ++ zero 11).set 2 (UInt8.ofNat s.size) = p16 i ++ [UInt8.ofNat s.size] ++ zero 10 := rfl
    rw [hb2] at t2
    simp only [List.set_cons_succ, List.set_cons_zero] at t2
    have hl3 : (p16 i ++ [UInt8.ofNat s.size] ++ zero 10).length = 13 := rfl
    have q3 : sliceA Try.prog [ent i s, u8l (zero 13), u8l (p16 i ++ [UInt8.ofNat s.size] ++ zero 10), u8l (p16 i)] 24 (.bp 2 0) (some (.v (.int .i64 3))) none none = some (.bsl 2 3 10 1) := sl_alo h13 (P := Try.prog) (bx := [ent i s, u8l (zero 13), u8l (p16 i ++ [UInt8.ofNat s.size] ++ zero 10), u8l (p16 i)]) (k := 2) (b := p16 i ++ [UInt8.ofNat s.size] ++ zero 10) rfl hl3 .i64 3 (by omega)
    have y2 : ∀ bx, readA bx (.v (.string s)) = some (s.data.toList.length, u8l s.data.toList) := fun bx => rfl
    have cp2 := cp_b t8 (bx := [ent i s, u8l (zero 13), u8l (p16 i ++ [UInt8.ofNat s.size] ++ zero 10), u8l (p16 i)]) (k := 2) (off := 3) (n := 10) (b := p16 i ++ [UInt8.ofNat s.size] ++ zero 10) (d := s.data.toList) (y := .v (.string s)) rfl (by simp [hp2]) (y2 _) l2
    have hb3 : (p16 i ++ [UInt8.ofNat s.size] ++ zero 10).take 3 ++ s.data.toList ++ (p16 i ++ [UInt8.ofNat s.size] ++ zero 10).drop (3 + s.data.toList.length) = eb i s.data.toList := by
      have e1 : (p16 i ++ [UInt8.ofNat s.size] ++ zero 10).take 3 = p16 i ++ [UInt8.ofNat s.size] := rfl
      have e2 : (p16 i ++ [UInt8.ofNat s.size] ++ zero 10).drop (3 + s.data.toList.length) = zero (10 - s.data.toList.length) := by
        rw [← List.drop_drop, show (p16 i ++ [UInt8.ofNat s.size] ++ zero 10).drop 3 = zero 10 from rfl, List.drop_replicate]
      rw [e1, e2]
      rfl
    rw [hb3] at cp2
    simp only [List.set_cons_succ, List.set_cons_zero] at cp2
    have he := eb_len i s.data.toList l2
    have z5 := ld_a h13 (P := Try.prog) (bx := [ent i s, u8l (zero 13), u8l (eb i s.data.toList), u8l (p16 i)]) (k := 2) (b := eb i s.data.toList) rfl he
    have s5 := st_a h13 (P := Try.prog) (bx := [ent i s, u8l (zero 13), u8l (eb i s.data.toList), u8l (p16 i)]) (k := 1) (b := zero 13) (c := eb i s.data.toList) rfl zl he
    simp only [List.set_cons_succ, List.set_cons_zero] at s5
    have stq := (And.intro (box_e) (And.intro (a13) (And.intro (fl) (And.intro (g1) (And.intro (g2) (And.intro (c1') (And.intro (g3) (And.intro (cv) (And.intro (c2) (And.intro (a2) (And.intro (s2) (And.intro (q1) (And.intro (q2) (And.intro (cp) (And.intro (ls) (And.intro (cl) (And.intro (x2) (And.intro (t2) (And.intro (q3) (And.intro (cp2) (And.intro (z5) (s5))))))))))))))))))))))
    repeat first
      | ((with_reducible apply ends_bind); case h => first | (simp only [stp, stq]; first | done | rfl) | rfl)
      | ((with_reducible apply ends_t); case h => first | rfl | (simp only [stp, stq]; done))
      | ((with_reducible apply ends_f); case h => first | rfl | (simp only [stp, stq]; done))
    exact ends_some (retq_ct (ld_a h13 (b := eb i s.data.toList) rfl he) (frz_agg _ _ _ _))
end Go.Sy
