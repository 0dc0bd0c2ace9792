/-
  Layer 02's laws as the reader reads them: CrcSums; and what each law is handed.
-/
import Derived.Test.YtjbladbinocidaaLwCrc3
namespace Go.Sy
open Go.Proofs Crc

theorem len_p (n : Nat) (ps : List AV) (f : Bool) : lenA Try.prog 35 (.sl n ps f) = some (.v (.int .i64 n)) := by kernel_rfl
theorem bs0p (bx : Bx) : buildSliceA Try.prog bx 35 0 [] = some (.bsl bx.length 0 0 1, bx ++ [[]]) := by kernel_rfl
theorem map_snoc {α β : Type} (f : α → β) (l : List α) (a : α) : l.map f ++ [f a] = (l ++ [a]).map f := by simp

theorem app_l (ps : List (List UInt8)) (p : List UInt8) (q : List UInt8) (x c : Int) (i : Nat) (hi : i = ps.length) (hps : ps.length < 2 ^ 31) :
    appA Try.prog 0 [ps.map (byt false), u8l q, [.v (.int .u32 x), .v (.int .i64 c)], [byt false p]] 35 (.bsl 0 0 i 1) (.bsl 3 0 1 1) =
      some (.bsl 0 0 (i + 1) 1, AV.keep (· != 0), [(ps ++ [p]).map (byt false), u8l q, [.v (.int .u32 x), .v (.int .i64 c)], [byt false p]]) := by
  rw [appV1 t81 0 _ (.bsl 3 0 1 1) 0 (ps.map (byt false)) [byt false p] i rfl (by omega) rfl (by simp) (by simp; omega) (by simp [hi])]
  rw [map_snoc, byts_keep]
  simp only [List.map_cons, List.map_nil, byts_keep, u8l_keep, List.set_cons_zero, List.length_map, List.length_cons, List.length_nil, hi]
  rfl
theorem app_b (ps : List (List UInt8)) (p : List UInt8) (q : List UInt8) (x c : Int) (z : List AV) (hz : z = [byt false p]) (N : Nat) (hN : N = q.length) (hq : q.length < 2 ^ 31) (hp : p.length < 2 ^ 31) :
    appA Try.prog 0 [ps.map (byt false), u8l q, [.v (.int .u32 x), .v (.int .i64 c)], z] 22 (.bsl 1 0 N 1) (byt false p) =
      some (.bsl 1 0 (N + p.length) 1, AV.keep (· != 1), [ps.map (byt false), u8l (q ++ p), [.v (.int .u32 x), .v (.int .i64 c)], z]) := by
  subst hz
  rw [appV t8 0 _ (byt false p) 1 q p N rfl (by omega) rfl (by omega) (by omega) hN]
  simp only [List.map_cons, List.map_nil, byts_keep, u8l_keep, List.set_cons_succ, List.set_cons_zero, hN]
  rfl

theorem ld_sum (A B D : List AV) (x c : Value) : loadA Try.prog 30 [A, B, [.v x, .v c], D] (.bp 2 0) = some (.agg [.v x, .v c]) := by kernel_rfl
theorem st_sum (A B D : List AV) (x c y d : Int) : stA Try.prog 30 [A, B, [.v (.int .u32 x), .v (.int .i64 c)], D] (.bp 2 0) (.agg [.v (.int .u32 y), .v (.int .i64 d)]) = some (.v undef, [A, B, [.v (.int .u32 y), .v (.int .i64 d)], D]) := by kernel_rfl
theorem fa_sum : fieldAddrA Try.prog 30 (.bp 2 0) 0 = some (.bp 2 0) := by kernel_rfl
theorem ld_reg (A B D : List AV) (x c : Value) : loadA Try.prog 25 [A, B, [.v x, .v c], D] (.bp 2 0) = some (.v x) := by kernel_rfl

theorem flat_le (l : List (List UInt8)) (h : ∀ b ∈ l, b.length ≤ 200) : l.flatten.length ≤ 200 * l.length := by
  induction l with
  | nil => simp
  | cons b l ih =>
    have h1 := h b (List.mem_cons_self ..)
    have h2 := ih fun c hc => h c (List.mem_cons_of_mem _ hc)
    rw [List.flatten_cons, List.length_append, List.length_cons]
    omega

/-- the first parts, as they are summed -/
def cut (l : List (List UInt8)) (i : Nat) : List (List UInt8) := (l.take i).map (List.take 200)
theorem cut_succ (l : List (List UInt8)) (i : Nat) (hi : i < l.length) : cut l (i + 1) = cut l i ++ [l[i].take 200] := by
  unfold cut
  rw [List.take_succ_eq_append_getElem hi, List.map_append]
  rfl
theorem cut_len (l : List (List UInt8)) (i : Nat) (hi : i ≤ l.length) : (cut l i).length = i := by
  unfold cut
  simp
  omega
theorem cut_le (l : List (List UInt8)) (i : Nat) : ∀ b ∈ cut l i, b.length ≤ 200 := by
  intro b hb
  obtain ⟨c, _, rfl⟩ := List.mem_map.1 hb
  simp
  omega

theorem sums_ev (l : List (List UInt8)) (_ : l.length < 2 ^ 63) : cf (evFn cx0 ext0 10000) 5 [.sl l.length (l.map (byt true)) true] = some (.v (.bool true)) := by
  have hw := works_at 9999 (by omega)
  have hb := begin_ev 9998
  unfold cf
  rw [E_l02_CrcSums]
  refine ends_cf (P := Try.prog) ?_
  unfold F_l02_CrcSums
  have stq := (And.intro (hb) (And.intro (bs0) (bs0p)))
  repeat first
    | ((with_reducible apply ends_bind); case h => first | (simp only [stp, stq]; rfl) | rfl)
    | ((with_reducible apply ends_t); case h => first | rfl | (simp only [stp, stq]; done))
    | ((with_reducible apply ends_f); case h => first | rfl | (simp only [stp, stq]; done))
  refine ends_loop (fun k s => ∃ (j x : Int) (i N : Nat) (b1 b2 : List AV), s = ⟨[(6, .v (.int .i64 j)), (5, .bp 2 0), (4, .bsl 1 0 N 1), (3, .bsl 0 0 i 1), (2, .v (.bool false)), (0, .sl l.length (l.map (byt true)) true)], [b1, b2, [.v (.int .u32 x), .v (.int .i64 N)]]⟩ ∧
    j = i ∧ i + k = min l.length 8 ∧ N = (cut l i).flatten.length ∧ x = i32 (reg 4294967295#32 (cut l i).flatten) ∧ b1 = (cut l i).map (byt false) ∧ b2 = u8l (cut l i).flatten) (min l.length 8) (by omega)
    ⟨_, _, 0, 0, _, _, rfl, rfl, by omega, by simp [cut], by simp [cut, reg_nil], by simp [cut], by simp [cut, u8l]⟩ ?_
  rintro k s ⟨j, x, i, N, b1, b2, rfl, rfl, hk, hN, rfl, rfl, rfl⟩
  refine L_l02_CrcSums_0_lit ?_
  unfold B_l02_CrcSums_0
  have n1 := len_p l.length (l.map (byt true)) true
  have hci := cut_len l i (by omega)
  have hcl := cut_le l i
  have hfl := flat_le (cut l i) hcl
  rcases k with _ | k
  · have ex : Ends (X_l02_CrcSums_0_0 (evFn cx0 ext0 9999) 9999 0 (.v (.bool false)) (.v (.int .i64 i)) (.bp 2 0) (.bsl 1 0 N 1) (.bsl 0 0 i 1) (.v (.bool false)) (.sl l.length (l.map (byt true)) true) [(cut l i).map (byt false), u8l (cut l i).flatten, [.v (.int .u32 (i32 (reg 4294967295#32 (cut l i).flatten))), .v (.int .i64 N)]]) (RetQ Try.prog [.tmp 2] (.v (.bool true))) := by
      have z1 : frz [(cut l i).map (byt false), u8l (cut l i).flatten, [.v (.int .u32 (i32 (reg 4294967295#32 (cut l i).flatten))), .v (.int .i64 N)]] true 6 (.bsl 0 0 i 1) = .sl i ((cut l i).map (byt false)) true := by
        show AV.sl i (((((cut l i).map (byt false)).drop 0).take (i * 1)).map (frz _ true 5)) true = _
        rw [List.drop_zero, Nat.mul_one, List.take_of_length_le (by simp; omega), byts_frz]
      have z2 : frz [(cut l i).map (byt false), u8l (cut l i).flatten, [.v (.int .u32 (i32 (reg 4294967295#32 (cut l i).flatten))), .v (.int .i64 N)]] true 6 (.bsl 1 0 N 1) = byt true (cut l i).flatten := frz_b8 true rfl hN
      have o1 := of_ev (n := 9999) (B := 200) true _ (cut l i) (RdP.map false _) hcl (by omega) (by omega) (by omega) (by omega)
      rw [hci] at o1
      have o2 := rof_ev (n := 9999) true (cut l i).flatten (by omega) (by omega)
      unfold X_l02_CrcSums_0_0
      have stq := (And.intro (z1) (And.intro (z2) (And.intro (o1) (And.intro (o2) (hw)))))
      repeat first
        | ((with_reducible apply ends_bind); case h => first | (simp only [stp, stq]; rfl) | rfl)
        | ((with_reducible apply ends_t); case h => first | rfl | (simp only [stp, stq]; done))
        | ((with_reducible apply ends_f); case h => first | rfl | (simp only [stp, stq]; done))
      exact ends_some ⟨.inl rfl, _, rfl, rfl⟩
    by_cases h1 : i < l.length
    · have g1 : decide ((i : Int) < (l.length : Int)) = true := decide_eq_true (by omega)
      have g2 : decide ((i : Int) < 8) = false := decide_eq_false (by omega)
      have stq := (And.intro (n1) (And.intro (g1) (g2)))
      repeat first
        | ((with_reducible apply ends_bind); case h => first | (simp only [stp, stq]; rfl) | rfl)
        | ((with_reducible apply ends_t); case h => first | rfl | (simp only [stp, stq]; done))
        | ((with_reducible apply ends_f); case h => first | rfl | (simp only [stp, stq]; done))
      exact ends_some (.inr (.inl ⟨0, rfl, X_l02_CrcSums_0_0_lit ex⟩))
    · have g1 : decide ((i : Int) < (l.length : Int)) = false := decide_eq_false (by omega)
      have stq := (And.intro (n1) (g1))
      repeat first
        | ((with_reducible apply ends_bind); case h => first | (simp only [stp, stq]; rfl) | rfl)
        | ((with_reducible apply ends_t); case h => first | rfl | (simp only [stp, stq]; done))
        | ((with_reducible apply ends_f); case h => first | rfl | (simp only [stp, stq]; done))
      exact ends_some (.inr (.inl ⟨0, rfl, X_l02_CrcSums_0_0_lit ex⟩))
  · have hi : i < l.length := by omega
    have g1 : decide ((i : Int) < (l.length : Int)) = true := decide_eq_true (by omega)
    have g2 : decide ((i : Int) < 8) = true := decide_eq_true (by omega)
    have i1 := idx_sl1 t81 (l.map (byt true)) l.length (by simp) true .i64 i (by simpa using hi)
    simp only [List.getElem_map] at i1
    have n2 := len_b true l[i]
    have s1 : ∀ bx, sliceA Try.prog bx 22 (byt true l[i]) none (some (.v (.int .i64 (min (l[i].length : Int) 200)))) none = some (byt true (l[i].take 200)) := fun bx => slc_min t8 bx l[i] true .i64 200
    have hc2 := cut_succ l i hi
    have hp : (l[i].take 200).length ≤ 200 := by simp; omega
    generalize hpe : l[i].take 200 = p at *
    have b1 : cf (evFn cx0 ext0 9999) 10 [byt true p] = _ := bytes_ev 9998 true p (by omega)
    have a1 := app_l (cut l i) p (cut l i).flatten (i32 (reg 4294967295#32 (cut l i).flatten)) N i hci.symm (by omega)
    have a2 := app_b (cut l i ++ [p]) p (cut l i).flatten (i32 (reg 4294967295#32 (cut l i).flatten)) N [byt false p] rfl N hN (by omega) (by omega)
    have k1 : AV.keep (fun x => x != 0) (.bsl 1 0 N 1) = .bsl 1 0 N 1 := rfl
    have k2 : ∀ q, AV.keep q (byt false p) = byt false p := fun _ => rfl
    have k3 : AV.keep (fun x => x != 0) (.bp 2 0) = .bp 2 0 := rfl
    have k4 : AV.keep (fun x => x != 1) (.bp 2 0) = .bp 2 0 := rfl
    have c1 : cf (evFn cx0 ext0 9999) 15 [sumV (reg 4294967295#32 (cut l i).flatten) N, byt false p] = _ := add_ev false p (by omega) (by omega) (reg 4294967295#32 (cut l i).flatten) N (by omega)
    have e : reg (reg 4294967295#32 (cut l i).flatten) p = reg 4294967295#32 ((cut l i).flatten ++ p) := (reg_append _ _ _).symm
    rw [e] at c1
    have c2 : cf (evFn cx0 ext0 9999) 14 [sumV (reg 4294967295#32 ((cut l i).flatten ++ p)) (N + p.length)] = some (v32 (sum ((cut l i).flatten ++ p))) := value_ev 9998 _ _
    have c3 : cf (evFn cx0 ext0 9999) 17 [sumV (reg 4294967295#32 ((cut l i).flatten ++ p)) (N + p.length)] = _ := len_ev 9998 _ _
    have z0 : ∀ bx r k, frz bx true 6 (sumV r k) = sumV r k := fun _ _ _ => rfl
    have z2 : ∀ A C D, frz [A, u8l ((cut l i).flatten ++ p), C, D] true 6 (.bsl 1 0 (N + p.length) 1) = byt true ((cut l i).flatten ++ p) := fun A C D => frz_b8 true rfl (by simp [hN])
    have o2 := rof_ev (n := 9999) true ((cut l i).flatten ++ p) (by rw [List.length_append]; omega) (by rw [List.length_append]; omega)
    have o3 : cf (evFn cx0 ext0 9999) 18 [.v (.int .u32 4294967295), byt true ((cut l i).flatten ++ p)] = _ := radd_ev (n := 9999) true ((cut l i).flatten ++ p) (by rw [List.length_append]; omega) (by rw [List.length_append]; omega) 4294967295#32
    have n3 := len_bsl 1 (N + p.length)
    rw [Int.natCast_add] at n3
    have k6 : IntKind.i64.wrap ((i : Int) + 1) = ((i + 1 : Nat) : Int) := by rw [wrap64]; omega
    have stq := (And.intro (n1) (And.intro (g1) (And.intro (g2) (And.intro (i1) (And.intro (n2) (And.intro (s1) (And.intro (b1) (And.intro (bs1) (And.intro (a1) (And.intro (a2) (And.intro (k1) (And.intro (k2) (And.intro (k3) (And.intro (k4) (And.intro (c1) (And.intro (c2) (And.intro (c3) (And.intro (z0) (And.intro (z2) (And.intro (o2) (And.intro (o3) (And.intro (n3) (And.intro (ld_sum) (And.intro (st_sum) (And.intro (fa_sum) (And.intro (ld_reg) (k6)))))))))))))))))))))))))))
    repeat first
      | ((with_reducible apply ends_bind); case h => first | (simp only [stp, stq]; rfl) | rfl)
      | ((with_reducible apply ends_t); case h => first | rfl | (simp only [stp, stq]; done))
      | ((with_reducible apply ends_f); case h => first | rfl | (simp only [stp, stq]; done))
    refine ends_some (.inl ⟨rfl, k, by omega, _, _, i + 1, N + p.length, _, _, rfl, k6, by omega, ?_, ?_, ?_, ?_⟩)
    · rw [hc2]; simp [hN]
    · rw [hc2]; simp
    · refine (byts_keep _ _ _).trans ?_
      rw [hc2]
    · refine (u8l_keep _ _).trans ?_
      rw [hc2]
      simp

/-- slices of bytes out of a law's argument -/
theorem fit_parts {a : AV} (h : Fit (.sl [.sl [.int .u8]]) a) : ∃ l : List (List UInt8), l.length ≤ maxLen ∧ a = .sl l.length (l.map (byt true)) true := by
  cases h with
  | sl row n l hn hl h =>
    simp only [List.length_cons, List.length_nil, Nat.zero_add, Nat.mul_one] at hl
    subst hl
    have : ∃ b : List (List UInt8), l = b.map (byt true) := by
      clear hn
      induction l with
      | nil => exact ⟨[], rfl⟩
      | cons x l ih =>
        obtain ⟨b, rfl⟩ := ih (fun i y c hy hc => h (i + 1) y c (by simpa using hy) (by simpa [Nat.mod_one] using hc))
        obtain ⟨c, _, rfl⟩ := fit_bytes (h 0 x (.sl [.int .u8]) rfl (by simp))
        exact ⟨c :: b, rfl⟩
    obtain ⟨b, rfl⟩ := this
    rw [List.length_map] at hn ⊢
    exact ⟨b, hn, rfl⟩

theorem sums_law (l : List AV) (hl : l.length = Try.f5.params.toList.length) (h : ∀ (j : Nat) (t : TypeId) (a : AV), Try.f5.params.toList[j]? = some t → l[j]? = some a → ArgFit Try.prog t a) :
    cf (evFn cx0 ext0 10000) 5 l = some (.v (.bool true)) := by
  match l, hl with
  | [a], _ =>
    obtain ⟨a, ha, rfl⟩ := fit_parts (arg1 (h 0 35 _ rfl rfl) (by kernel_rfl) (by kernel_rfl))
    exact sums_ev a (by unfold maxLen at ha; omega)

theorem empty_law (l : List AV) (hl : l.length = Try.f4.params.toList.length) (h : ∀ (j : Nat) (t : TypeId) (a : AV), Try.f4.params.toList[j]? = some t → l[j]? = some a → ArgFit Try.prog t a) :
    cf (evFn cx0 ext0 10000) 4 l = some (.v (.bool true)) := by
  match l, hl with
  | [a], _ =>
    obtain ⟨a, ha, rfl⟩ := fit_bytes (arg1 (h 0 22 _ rfl rfl) (by kernel_rfl) (by kernel_rfl))
    exact empty_ev a

theorem joined_law (l : List AV) (hl : l.length = Try.f8.params.toList.length) (h : ∀ (j : Nat) (t : TypeId) (a : AV), Try.f8.params.toList[j]? = some t → l[j]? = some a → ArgFit Try.prog t a) :
    cf (evFn cx0 ext0 10000) 8 l = some (.v (.bool true)) := by
  match l, hl with
  | [a, b], _ =>
    obtain ⟨a, ha, rfl⟩ := fit_bytes (arg1 (h 0 22 _ rfl rfl) (by kernel_rfl) (by kernel_rfl))
    obtain ⟨b, hb, rfl⟩ := fit_bytes (arg1 (h 1 22 _ rfl rfl) (by kernel_rfl) (by kernel_rfl))
    exact joined_ev a b

theorem one_law (l : List AV) (hl : l.length = Try.f3.params.toList.length) (h : ∀ (j : Nat) (t : TypeId) (a : AV), Try.f3.params.toList[j]? = some t → l[j]? = some a → ArgFit Try.prog t a) :
    cf (evFn cx0 ext0 10000) 3 l = some (.v (.bool true)) := by
  match l, hl with
  | [a, b, c], _ =>
    obtain ⟨a, ha, rfl⟩ := fit_bytes (arg1 (h 0 22 _ rfl rfl) (by kernel_rfl) (by kernel_rfl))
    obtain ⟨b, rfl, _⟩ := fit_int (k := .i64) (arg1 (h 1 3 _ rfl rfl) (by kernel_rfl) (by kernel_rfl))
    obtain ⟨c, rfl⟩ := fit8 (arg1 (h 2 5 _ rfl rfl) (by kernel_rfl) (by kernel_rfl))
    exact one_ev a b c
end Go.Sy
