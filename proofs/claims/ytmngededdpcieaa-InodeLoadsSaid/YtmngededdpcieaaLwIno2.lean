/-
  Layer 10: the document's side of inodes, their bytes and loads.
-/
import Derived.Test.YtmngededdpcieaaLwIno
namespace Go.Sy
open Go.Proofs Num

def rp16 (x : Int) : List AV := [.v (.int .u8 (IntKind.u8.wrap (x.tmod 256))), .v (.int .u8 (IntKind.u8.wrap (IntKind.u16.wrap (x.tdiv 256))))]
def rp32 (x : Int) : List AV := [.v (.int .u8 (IntKind.u8.wrap (x.tmod 256))), .v (.int .u8 (IntKind.u8.wrap ((IntKind.u32.wrap (x.tdiv 256)).tmod 256))), .v (.int .u8 (IntKind.u8.wrap ((IntKind.u32.wrap (x.tdiv 65536)).tmod 256))), .v (.int .u8 (IntKind.u8.wrap (IntKind.u32.wrap (x.tdiv 16777216))))]
theorem rp16_raw (m : Nat) (x : Int) : cf (evFn cx0 ext0 (m + 1)) 30 [.v (.int .u16 x)] = some (.sl 2 (rp16 x) false) := by kernel_rfl
theorem rp32_raw (m : Nat) (x : Int) : cf (evFn cx0 ext0 (m + 1)) 29 [.v (.int .u32 x)] = some (.sl 4 (rp32 x) false) := by kernel_rfl
theorem rp16_eq (x : Nat) (h : x < 65536) : rp16 x = u8l (p16 x) := by
  have h1 := rp16_raw 0 (x : Int)
  rw [rput16_ev 0 x h] at h1
  unfold byt at h1
  simp only [Option.some.injEq, AV.sl.injEq] at h1
  exact h1.2.1.symm
theorem rp32_eq (x : Nat) (h : x < 4294967296) : rp32 x = u8l (p32 x) := by
  have h1 := rp32_raw 0 (x : Int)
  rw [rput32_ev 0 x h] at h1
  unfold byt at h1
  simp only [Option.some.injEq, AV.sl.injEq] at h1
  exact h1.2.1.symm
theorem rput_raw (m : Nat) (k l s d e f g a b : Int) : cf (evFn cx0 ext0 (m + 20)) 17 [.agg (inoL k l s d e f g a b)] = some (.sl 18 ([.v (.int .u8 k), .v (.int .u8 l)] ++ rp32 s ++ rp16 d ++ rp16 e ++ rp16 f ++ rp16 g ++ rp16 a ++ rp16 b) false) := by kernel_rfl
theorem rIPut_ev {n : Nat} (hn : 20 ≤ n) (x : Ino) (hx : x.ok) : cf (evFn cx0 ext0 n) 17 [.agg x.cells] = some (byt false (ib x)) := by
  obtain ⟨m, rfl⟩ : ∃ m, n = m + 20 := ⟨n - 20, by omega⟩
  obtain ⟨h1, h2, h3, h4, h5, h6, h7⟩ := hx
  unfold Ino.cells
  rw [rput_raw]
  simp only [rp16_eq _ h2, rp16_eq _ h3, rp16_eq _ h4, rp16_eq _ h5, rp16_eq _ h6, rp16_eq _ h7, rp32_eq _ h1]
  rfl

def rs (x y : Int) : Int := IntKind.u64.wrap (IntKind.u64.wrap (256 * x) + IntKind.u64.wrap y)
def rg16 (x y : Int) : Int := IntKind.u16.wrap (rs (rs 0 y) x)
def rg32 (x y z w : Int) : Int := IntKind.u32.wrap (rs (rs (rs (rs 0 w) z) y) x)
theorem rget_raw (m : Nat) (b0 b1 b2 b3 b4 b5 b6 b7 b8 b9 b10 b11 b12 b13 b14 b15 b16 b17 : Int) : cf (evFn cx0 ext0 (m + 20)) 19 [.sl 18 [.v (.int .u8 b0), .v (.int .u8 b1), .v (.int .u8 b2), .v (.int .u8 b3), .v (.int .u8 b4), .v (.int .u8 b5), .v (.int .u8 b6), .v (.int .u8 b7), .v (.int .u8 b8), .v (.int .u8 b9), .v (.int .u8 b10), .v (.int .u8 b11), .v (.int .u8 b12), .v (.int .u8 b13), .v (.int .u8 b14), .v (.int .u8 b15), .v (.int .u8 b16), .v (.int .u8 b17)] true] = some (.agg (inoL b0 b1 (rg32 b2 b3 b4 b5) (rg16 b6 b7) (rg16 b8 b9) (rg16 b10 b11) (rg16 b12 b13) (rg16 b14 b15) (rg16 b16 b17))) := by kernel_rfl
theorem rs_eq (x : Nat) (y : UInt8) (h : x < 4294967296) : rs x y.toNat = ((256 * x + y.toNat : Nat) : Int) := by
  have hy := UInt8.toNat_lt y
  unfold rs
  rw [wrapu64, wrapu64, wrapu64]
  omega
theorem rg16_eq (x y : UInt8) : rg16 x.toNat y.toNat = (le [x, y] : Nat) := by
  have hx := UInt8.toNat_lt x
  have hy := UInt8.toNat_lt y
  unfold rg16
  rw [show (0 : Int) = ((0 : Nat) : Int) from rfl, rs_eq _ y (by omega), rs_eq _ x (by omega), wrap16]
  simp only [le]
  omega
theorem rg32_eq (x y z w : UInt8) : rg32 x.toNat y.toNat z.toNat w.toNat = (le [x, y, z, w] : Nat) := by
  have hx := UInt8.toNat_lt x
  have hy := UInt8.toNat_lt y
  have hz := UInt8.toNat_lt z
  have hw := UInt8.toNat_lt w
  unfold rg32
  rw [show (0 : Int) = ((0 : Nat) : Int) from rfl, rs_eq _ w (by omega), rs_eq _ z (by omega), rs_eq _ y (by omega), rs_eq _ x (by omega), wrap32]
  simp only [le]
  omega
theorem rIGet_ev {n : Nat} (hn : 20 ≤ n) (t0 : List UInt8) (h0 : t0.length = 18) : cf (evFn cx0 ext0 n) 19 [byt true t0] = some (.agg (gi t0).cells) := by
  obtain ⟨m, rfl⟩ : ∃ m, n = m + 20 := ⟨n - 20, by omega⟩
  obtain ⟨b0, t1, rfl, h1⟩ := ex_cons h0
  obtain ⟨b1, t2, rfl, h2⟩ := ex_cons h1
  obtain ⟨b2, t3, rfl, h3⟩ := ex_cons h2
  obtain ⟨b3, t4, rfl, h4⟩ := ex_cons h3
  obtain ⟨b4, t5, rfl, h5⟩ := ex_cons h4
  obtain ⟨b5, t6, rfl, h6⟩ := ex_cons h5
  obtain ⟨b6, t7, rfl, h7⟩ := ex_cons h6
  obtain ⟨b7, t8, rfl, h8⟩ := ex_cons h7
  obtain ⟨b8, t9, rfl, h9⟩ := ex_cons h8
  obtain ⟨b9, t10, rfl, h10⟩ := ex_cons h9
  obtain ⟨b10, t11, rfl, h11⟩ := ex_cons h10
  obtain ⟨b11, t12, rfl, h12⟩ := ex_cons h11
  obtain ⟨b12, t13, rfl, h13⟩ := ex_cons h12
  obtain ⟨b13, t14, rfl, h14⟩ := ex_cons h13
  obtain ⟨b14, t15, rfl, h15⟩ := ex_cons h14
  obtain ⟨b15, t16, rfl, h16⟩ := ex_cons h15
  obtain ⟨b16, t17, rfl, h17⟩ := ex_cons h16
  obtain ⟨b17, t18, rfl, h18⟩ := ex_cons h17
  obtain rfl := List.length_eq_zero_iff.mp h18
  have := rget_raw m (b0.toNat) (b1.toNat) (b2.toNat) (b3.toNat) (b4.toNat) (b5.toNat) (b6.toNat) (b7.toNat) (b8.toNat) (b9.toNat) (b10.toNat) (b11.toNat) (b12.toNat) (b13.toNat) (b14.toNat) (b15.toNat) (b16.toNat) (b17.toNat)
  simp only [rg16_eq, rg32_eq] at this
  exact this

/-! ## fields -/
theorem rfield_n (m : Nat) : cf (evFn cx0 ext0 (m + 1)) 26 [.v (.int .i64 0)] = some (fldV (fld 0)) ∧ cf (evFn cx0 ext0 (m + 1)) 26 [.v (.int .i64 1)] = some (fldV (fld 1)) ∧ cf (evFn cx0 ext0 (m + 1)) 26 [.v (.int .i64 2)] = some (fldV (fld 2)) ∧ cf (evFn cx0 ext0 (m + 1)) 26 [.v (.int .i64 3)] = some (fldV (fld 3)) ∧ cf (evFn cx0 ext0 (m + 1)) 26 [.v (.int .i64 4)] = some (fldV (fld 4)) ∧ cf (evFn cx0 ext0 (m + 1)) 26 [.v (.int .i64 5)] = some (fldV (fld 5)) ∧ cf (evFn cx0 ext0 (m + 1)) 26 [.v (.int .i64 6)] = some (fldV (fld 6)) ∧ cf (evFn cx0 ext0 (m + 1)) 26 [.v (.int .i64 7)] = some (fldV (fld 7)) ∧ cf (evFn cx0 ext0 (m + 1)) 26 [.v (.int .i64 8)] = some (fldV (fld 8)) ∧ cf (evFn cx0 ext0 (m + 1)) 26 [.v (.int .i64 9)] = some (fldV (fld 9)) := ⟨by kernel_rfl, by kernel_rfl, by kernel_rfl, by kernel_rfl, by kernel_rfl, by kernel_rfl, by kernel_rfl, by kernel_rfl, by kernel_rfl, by kernel_rfl⟩
theorem rfield_ev (m : Nat) (f : Int) : cf (evFn cx0 ext0 (m + 1)) 26 [.v (.int .i64 f)] = some (fldV (fld f)) := by
  by_cases h0 : f < 0
  · have g0 : decide (f < 0) = true := decide_eq_true h0
    rw [show fld f = (0, 0, false) by unfold fld; rw [if_neg (by omega), if_neg (by omega), if_neg (by omega), if_neg (by omega), if_neg (by omega)]]
    unfold cf
    rw [E_r10_field]
    refine ends_cf (P := Try.prog) ?_
    unfold F_r10_field
    have stq := (g0)
    repeat first
      | ((with_reducible apply ends_bind); case h => first | (simp only [stp, stq]; first | done | rfl) | rfl)
      | ((with_reducible apply ends_t); case h => first | rfl | (simp only [stp, stq]; done))
      | ((with_reducible apply ends_f); case h => first | rfl | (simp only [stp, stq]; done))
    exact ends_some ⟨.inl rfl, _, rfl, rfl⟩
  by_cases h9 : 9 < f
  · have g0 : decide (f < 0) = false := decide_eq_false h0
    have g9 : decide (9 < f) = true := decide_eq_true h9
    rw [show fld f = (0, 0, false) by unfold fld; rw [if_neg (by omega), if_neg (by omega), if_neg (by omega), if_neg (by omega), if_neg (by omega)]]
    unfold cf
    rw [E_r10_field]
    refine ends_cf (P := Try.prog) ?_
    unfold F_r10_field
    have stq := (And.intro (g0) (g9))
    repeat first
      | ((with_reducible apply ends_bind); case h => first | (simp only [stp, stq]; first | done | rfl) | rfl)
      | ((with_reducible apply ends_t); case h => first | rfl | (simp only [stp, stq]; done))
      | ((with_reducible apply ends_f); case h => first | rfl | (simp only [stp, stq]; done))
    exact ends_some ⟨.inl rfl, _, rfl, rfl⟩
  have : f = 0 ∨ f = 1 ∨ f = 2 ∨ f = 3 ∨ f = 4 ∨ f = 5 ∨ f = 6 ∨ f = 7 ∨ f = 8 ∨ f = 9 := by omega
  obtain ⟨k0, k1, k2, k3, k4, k5, k6, k7, k8, k9⟩ := rfield_n m
  rcases this with h | h | h | h | h | h | h | h | h | h <;> subst h
  · exact k0
  · exact k1
  · exact k2
  · exact k3
  · exact k4
  · exact k5
  · exact k6
  · exact k7
  · exact k8
  · exact k9

theorem rOffset_ev (m : Nat) (s f : Int) : cf (evFn cx0 ext0 (m + 2)) 12 [.v (.int .i64 s), .v (.int .i64 f)] = some (offV s f) := by
  have c1 : cf (evFn cx0 ext0 (m + 1)) 26 [.v (.int .i64 f)] = _ := rfield_ev m f
  have hf := fld_in f
  unfold cf
  rw [E_r10_Offset]
  refine ends_cf (P := Try.prog) ?_
  unfold F_r10_Offset
  unfold offV
  generalize fld f = w at *
  obtain ⟨p, q, r⟩ := w
  simp only [fldV] at c1 hf ⊢
  by_cases h1 : s < 0
  · have g1 : decide (s < 0) = true := decide_eq_true h1
    rw [if_neg (by omega)]
    have stq := (And.intro (c1) (g1))
    repeat first
      | ((with_reducible apply ends_bind); case h => first | (simp only [stp, stq]; first | done | rfl) | rfl)
      | ((with_reducible apply ends_t); case h => first | rfl | (simp only [stp, stq]; done))
      | ((with_reducible apply ends_f); case h => first | rfl | (simp only [stp, stq]; done))
    exact ends_some ⟨.inl rfl, _, rfl, rfl⟩
  have g1 : decide (s < 0) = false := decide_eq_false h1
  by_cases h2 : 2 < s
  · have g2 : decide (2 < s) = true := decide_eq_true h2
    rw [if_neg (by omega)]
    have stq := (And.intro (c1) (And.intro (g1) (g2)))
    repeat first
      | ((with_reducible apply ends_bind); case h => first | (simp only [stp, stq]; first | done | rfl) | rfl)
      | ((with_reducible apply ends_t); case h => first | rfl | (simp only [stp, stq]; done))
      | ((with_reducible apply ends_f); case h => first | rfl | (simp only [stp, stq]; done))
    exact ends_some ⟨.inl rfl, _, rfl, rfl⟩
  have g2 : decide (2 < s) = false := decide_eq_false h2
  cases r
  · rw [if_neg (by simp)]
    have stq := (And.intro (c1) (And.intro (g1) (And.intro (g2) (n_ft))))
    repeat first
      | ((with_reducible apply ends_bind); case h => first | (simp only [stp, stq]; first | done | rfl) | rfl)
      | ((with_reducible apply ends_t); case h => first | rfl | (simp only [stp, stq]; done))
      | ((with_reducible apply ends_f); case h => first | rfl | (simp only [stp, stq]; done))
    exact ends_some ⟨.inl rfl, _, rfl, rfl⟩
  · rw [if_pos ⟨⟨by omega, by omega⟩, rfl⟩]
    have e1 := wsm (x := 18 * s) (by omega) (by omega)
    have e2 := wsm (x := 18 * s + p) (by omega) (by omega)
    have stq := (And.intro (c1) (And.intro (g1) (And.intro (g2) (And.intro (n_tf) (And.intro (e1) (e2))))))
    repeat first
      | ((with_reducible apply ends_bind); case h => first | (simp only [stp, stq]; first | done | rfl) | rfl)
      | ((with_reducible apply ends_t); case h => first | rfl | (simp only [stp, stq]; done))
      | ((with_reducible apply ends_f); case h => first | rfl | (simp only [stp, stq]; done))
    exact ends_some ⟨.inl rfl, _, rfl, rfl⟩

theorem rFields_ev {n : Nat} (hn : 30 ≤ n) (x : Ino) (hx : x.ok) (f : Int) : cf (evFn cx0 ext0 n) 15 [.agg x.cells, .v (.int .i64 f)] = some (byt false (fB x f)) := by
  obtain ⟨m, rfl⟩ : ∃ m, n = m + 2 := ⟨n - 2, by omega⟩
  have c1 : cf (evFn cx0 ext0 (m + 1)) 26 [.v (.int .i64 f)] = _ := rfield_ev m f
  have c3 := rIPut_ev (n := m + 1) (by omega) x hx
  have hib := ib_len x
  have hf := fld_in f
  have li := fun r => ld_i0 x r
  unfold cf
  rw [E_r10_Fields]
  refine ends_cf (P := Try.prog) ?_
  unfold F_r10_Fields
  unfold fB
  generalize fld f = w at *
  obtain ⟨p, q, r⟩ := w
  simp only [fldV] at c1 hf ⊢
  cases r
  · rw [if_neg (by simp)]
    have stq := (And.intro (box_i) (And.intro (c1) (And.intro (n_ft) (n_tf))))
    repeat first
      | ((with_reducible apply ends_bind); case h => first | (simp only [stp, stq]; first | done | rfl) | rfl)
      | ((with_reducible apply ends_t); case h => first | rfl | (simp only [stp, stq]; done))
      | ((with_reducible apply ends_f); case h => first | rfl | (simp only [stp, stq]; done))
    exact ends_some ⟨.inl rfl, _, rfl, rfl⟩
  · rw [if_pos rfl]
    obtain ⟨a, rfl⟩ : ∃ a : Nat, p = a := ⟨p.toNat, by omega⟩
    obtain ⟨k, rfl⟩ : ∃ k : Nat, q = k := ⟨q.toNat, by omega⟩
    simp only [Int.toNat_natCast]
    have e1 : IntKind.i64.wrap ((a : Int) + (k : Int)) = ((a + k : Nat) : Int) := by rw [wsm (by omega) (by omega)]; omega
    have s1 := fun bx => slc_u8 t8 bx (ib x) false .i64 .i64 a (a + k) (by omega) (by omega)
    have hb : AV.sl k (u8l (((ib x).drop a).take k)) false = byt false (((ib x).drop a).take k) := by
      unfold byt
      rw [List.length_take, List.length_drop, show min k ((ib x).length - a) = k by omega]
    rw [show a + k - a = k by omega, hb] at s1
    have stq := (And.intro (box_i) (And.intro (c1) (And.intro (n_ft) (And.intro (n_tf) (And.intro (li) (And.intro (frz_i) (And.intro (c3) (And.intro (e1) (s1)))))))))
    repeat first
      | ((with_reducible apply ends_bind); case h => first | (simp only [stp, stq]; first | done | rfl) | rfl)
      | ((with_reducible apply ends_t); case h => first | rfl | (simp only [stp, stq]; done))
      | ((with_reducible apply ends_f); case h => first | rfl | (simp only [stp, stq]; done))
    exact ends_some ⟨.inl rfl, _, rfl, rfl⟩

/-! ## loads -/
theorem rAt_ev {n : Nat} (hn : 30 ≤ n) (p : List UInt8) (hp : p.length = 54) (s : Int) : cf (evFn cx0 ext0 n) 21 [.agg (u8l p), .v (.int .i64 s)] = some (atV p s) := by
  obtain ⟨m, rfl⟩ : ∃ m, n = m + 2 := ⟨n - 2, by omega⟩
  have si := fun x y => st_i1 (u8l p) x y []
  unfold cf
  rw [E_r10_At]
  refine ends_cf (P := Try.prog) ?_
  unfold F_r10_At
  unfold atV
  by_cases h1 : s < 0
  · have g1 : decide (s < 0) = true := decide_eq_true h1
    rw [if_neg (by omega)]
    have stq := (And.intro (box_agg) (And.intro (al_i) (And.intro (g1) (And.intro (z_i) (si)))))
    repeat first
      | ((with_reducible apply ends_bind); case h => first | (simp only [stp, stq]; first | done | rfl) | rfl)
      | ((with_reducible apply ends_t); case h => first | rfl | (simp only [stp, stq]; done))
      | ((with_reducible apply ends_f); case h => first | rfl | (simp only [stp, stq]; done))
    exact ends_some (retq_ct (ld_i1 _ _ _) (frz_i5 _ _ _))
  have g1 : decide (s < 0) = false := decide_eq_false h1
  by_cases h2 : 2 < s
  · have g2 : decide (2 < s) = true := decide_eq_true h2
    rw [if_neg (by omega)]
    have stq := (And.intro (box_agg) (And.intro (al_i) (And.intro (g1) (And.intro (g2) (And.intro (z_i) (si))))))
    repeat first
      | ((with_reducible apply ends_bind); case h => first | (simp only [stp, stq]; first | done | rfl) | rfl)
      | ((with_reducible apply ends_t); case h => first | rfl | (simp only [stp, stq]; done))
      | ((with_reducible apply ends_f); case h => first | rfl | (simp only [stp, stq]; done))
    exact ends_some (retq_ct (ld_i1 _ _ _) (frz_i5 _ _ _))
  have g2 : decide (2 < s) = false := decide_eq_false h2
  rw [if_pos (by omega)]
  obtain ⟨j, rfl⟩ : ∃ j : Nat, s = j := ⟨s.toNat, by omega⟩
  simp only [Int.toNat_natCast]
  have e1 : IntKind.i64.wrap (18 * (j : Int)) = ((18 * j : Nat) : Int) := by rw [wsm (by omega) (by omega)]; omega
  have e2 : IntKind.i64.wrap (((18 * j : Nat) : Int) + 18) = ((18 * j + 18 : Nat) : Int) := by rw [wsm (by omega) (by omega)]; omega
  have s1 := sl_a2 hL (P := Try.prog) (bx := [u8l p, zI.cells]) (k := 0) (b := p) rfl hp .i64 .i64 (18 * j) (18 * j + 18) (by omega) (by omega)
  rw [show 18 * j + 18 - 18 * j = 18 by omega] at s1
  have f1 : frz [u8l p, zI.cells] true 6 (.bsl 0 (18 * j) 18 1) = byt true ((p.drop (18 * j)).take 18) := frz_bo (b := p) (d := 4) true rfl (by omega)
  have c3 := rIGet_ev (n := m + 1) (by omega) ((p.drop (18 * j)).take 18) (by rw [List.length_take, List.length_drop]; omega)
  have stq := (And.intro (box_agg) (And.intro (al_i) (And.intro (g1) (And.intro (g2) (And.intro (e1) (And.intro (e2) (And.intro (s1) (And.intro (f1) (And.intro (c3) (si))))))))))
  repeat first
    | ((with_reducible apply ends_bind); case h => first | (simp only [stp, stq]; first | done | rfl) | rfl)
    | ((with_reducible apply ends_t); case h => first | rfl | (simp only [stp, stq]; done))
    | ((with_reducible apply ends_f); case h => first | rfl | (simp only [stp, stq]; done))
  exact ends_some (retq_ct (ld_i1 _ _ _) (frz_i5 _ _ _))
theorem put_at (A B p : List UInt8) (i : Nat) (a : Nat) (hA : A.length = a) (hi : i < B.length) (hp : a + B.length ≤ p.length) : (A ++ B.take i ++ p.drop (a + i)).set (a + i) (B[i]'hi) = A ++ B.take (i + 1) ++ p.drop (a + (i + 1)) := by
  have h1 : (A ++ B.take i).length = a + i := by rw [List.length_append, List.length_take]; omega
  rw [List.set_append_right _ _ (by omega), h1, Nat.sub_self, List.drop_eq_getElem_cons (by omega), List.set_cons_zero, List.take_succ_eq_append_getElem hi]
  simp only [List.append_assoc, List.cons_append, List.nil_append, Nat.add_assoc]
theorem sz8 : szA Try.prog 5 = some 1 := by kernel_rfl
theorem rWith_ev {n : Nat} (hn : 40 ≤ n) (p : List UInt8) (hp : p.length = 54) (s : Int) (x : Ino) (hx : x.ok) : cf (evFn cx0 ext0 n) 23 [.agg (u8l p), .v (.int .i64 s), .agg x.cells] = some (wiV p s x) := by
  obtain ⟨m, rfl⟩ : ∃ m, n = m + 2 := ⟨n - 2, by omega⟩
  have aL := al_a hL
  have zl : (zero 54).length = 54 := rfl
  have zb := z_a hL
  have s3 := st_a hL (bx := [u8l p, x.cells, u8l (zero 54)]) (k := 2) (b := zero 54) (c := zero 54) rfl zl zl
  simp only [List.set_cons_succ, List.set_cons_zero] at s3
  unfold cf
  rw [E_r10_With]
  refine ends_cf (P := Try.prog) ?_
  unfold F_r10_With
  unfold wiV
  by_cases h1 : s < 0
  · have g1 : decide (s < 0) = true := decide_eq_true h1
    rw [if_neg (by omega)]
    have stq := (And.intro (box_agg) (And.intro (box_i) (And.intro (aL) (And.intro (g1) (And.intro (zb) (s3))))))
    repeat first
      | ((with_reducible apply ends_bind); case h => first | (simp only [stp, stq]; first | done | rfl) | rfl)
      | ((with_reducible apply ends_t); case h => first | rfl | (simp only [stp, stq]; done))
      | ((with_reducible apply ends_f); case h => first | rfl | (simp only [stp, stq]; done))
    exact ends_some (retq_ct (ld_a hL (b := zero 54) rfl zl) (frz_agg _ _ _ _))
  have g1 : decide (s < 0) = false := decide_eq_false h1
  by_cases h2 : 2 < s
  · have g2 : decide (2 < s) = true := decide_eq_true h2
    rw [if_neg (by omega)]
    have stq := (And.intro (box_agg) (And.intro (box_i) (And.intro (aL) (And.intro (g1) (And.intro (g2) (And.intro (zb) (s3)))))))
    repeat first
      | ((with_reducible apply ends_bind); case h => first | (simp only [stp, stq]; first | done | rfl) | rfl)
      | ((with_reducible apply ends_t); case h => first | rfl | (simp only [stp, stq]; done))
      | ((with_reducible apply ends_f); case h => first | rfl | (simp only [stp, stq]; done))
    exact ends_some (retq_ct (ld_a hL (b := zero 54) rfl zl) (frz_agg _ _ _ _))
  have g2 : decide (2 < s) = false := decide_eq_false h2
  rw [if_pos (by omega)]
  obtain ⟨j, rfl⟩ : ∃ j : Nat, s = j := ⟨s.toNat, by omega⟩
  simp only [Int.toNat_natCast]
  have li := fun r => ld_i1 (u8l p) x r
  have lp := fun r => ld_a hL (bx := u8l p :: r) (k := 0) (b := p) rfl hp
  have c3 := rIPut_ev (n := m + 1) (by omega) x hx
  have hib := ib_len x
  have s4 := st_a hL (bx := [u8l p, x.cells, u8l (zero 54), u8l (zero 54)]) (k := 3) (b := zero 54) (c := p) rfl zl hp
  simp only [List.set_cons_succ, List.set_cons_zero] at s4
  have hpl : (p.take (18 * j)).length = 18 * j := by rw [List.length_take]; omega
  have stq := (And.intro (box_agg) (And.intro (box_i) (And.intro (aL) (And.intro (g1) (And.intro (g2) (And.intro (li) (And.intro (lp) (And.intro (frz_i) (And.intro (c3) (And.intro (zl) (s4)))))))))))
  repeat first
    | ((with_reducible apply ends_bind); case h => first | (simp only [stp, stq]; first | done | rfl) | rfl)
    | ((with_reducible apply ends_t); case h => first | rfl | (simp only [stp, stq]; done))
    | ((with_reducible apply ends_f); case h => first | rfl | (simp only [stp, stq]; done))
  refine ends_loop (fun k st => ∃ (i : Nat) (y0 y2 y16 : AV) (b0 b1 b2 b3 : List AV), st = ⟨[(10, .v (.int .i64 i)), (9, .bp 3 0), (8, byt false (ib x)), (16, y16), (7, .v (.int .i64 0)), (6, .bp 2 0), (5, .bp 1 0), (3, .bp 0 0), (0, y0), (1, .v (.int .i64 j)), (2, y2)], [b0, b1, b2, b3]⟩ ∧
    b2 = u8l (zero 54) ∧ b3 = u8l (p.take (18 * j) ++ (ib x).take i ++ p.drop (18 * j + i)) ∧ i + k = 18) 18 (by omega) ⟨0, _, _, _, _, _, _, _, rfl, rfl, by simp, by omega⟩ ?_
  rintro k st ⟨i, y0, y2, y16, b0, b1, b2, b3, rfl, rfl, rfl, hik⟩
  refine L_r10_With_0_lit ?_
  unfold B_r10_With_0
  rcases k with _ | k
  · have g0 : decide ((i : Int) < 18) = false := decide_eq_false (by omega)
    have stq := (g0)
    repeat first
      | ((with_reducible apply ends_bind); case h => first | (simp only [stp, stq]; first | done | rfl) | rfl)
      | ((with_reducible apply ends_t); case h => first | rfl | (simp only [stp, stq]; done))
      | ((with_reducible apply ends_f); case h => first | rfl | (simp only [stp, stq]; done))
    refine ends_some (.inr (.inl ⟨0, rfl, X_r10_With_0_0_lit ?_⟩))
    unfold X_r10_With_0_0
    obtain rfl : i = 18 := by omega
    rw [show p.take (18 * j) ++ (ib x).take 18 ++ p.drop (18 * j + 18) = wiL p j x from rfl]
    have hw := wiL_len p hp j (by omega) x
    have l2 := ld_a hL (bx := [b0, b1, u8l (zero 54), u8l (wiL p j x)]) (k := 3) (b := wiL p j x) rfl hw
    have s5 := st_a hL (bx := [b0, b1, u8l (zero 54), u8l (wiL p j x)]) (k := 2) (b := zero 54) (c := wiL p j x) rfl zl hw
    simp only [List.set_cons_succ, List.set_cons_zero] at s5
    have stq := (And.intro (l2) (s5))
    repeat first
      | ((with_reducible apply ends_bind); case h => first | (simp only [stp, stq]; first | done | rfl) | rfl)
      | ((with_reducible apply ends_t); case h => first | rfl | (simp only [stp, stq]; done))
      | ((with_reducible apply ends_f); case h => first | rfl | (simp only [stp, stq]; done))
    exact ends_some (retq_ct (ld_a hL (b := wiL p j x) rfl hw) (frz_agg _ _ _ _))
  · have g0 : decide ((i : Int) < 18) = true := decide_eq_true (by omega)
    have hi : i < (ib x).length := by omega
    have e1 : IntKind.i64.wrap (18 * (j : Int)) = ((18 * j : Nat) : Int) := by rw [wsm (by omega) (by omega)]; omega
    have e2 : IntKind.i64.wrap (((18 * j : Nat) : Int) + (i : Int)) = ((18 * j + i : Nat) : Int) := by rw [wsm (by omega) (by omega)]; omega
    have e3 : IntKind.i64.wrap ((i : Int) + 1) = ((i + 1 : Nat) : Int) := by rw [wsm (by omega) (by omega)]; omega
    have i1 := idx_u8 t8 (ib x) false .i64 i hi
    have l1 : ∀ bx r f, loadA Try.prog 5 bx (.ip (u8 (ib x)[i] :: r) f) = some (u8 (ib x)[i]) := fun bx r f => rfl
    have i2 := ix_a hL (P := Try.prog) 3 0 .i64 (18 * j + i) (by omega)
    rw [Nat.zero_add] at i2
    have s5 := st_b8 sz8 [b0, b1, u8l (zero 54), u8l (p.take (18 * j) ++ (ib x).take i ++ p.drop (18 * j + i))] 3 (18 * j + i) (p.take (18 * j) ++ (ib x).take i ++ p.drop (18 * j + i)) (ib x)[i] rfl (by
      rw [List.length_append, List.length_append, hpl, List.length_take, List.length_drop]; omega)
    rw [put_at _ _ p i (18 * j) hpl hi (by omega)] at s5
    simp only [List.set_cons_succ, List.set_cons_zero] at s5
    have stq := (And.intro (g0) (And.intro (e1) (And.intro (e2) (And.intro (e3) (And.intro (i1) (And.intro (l1) (And.intro (i2) (s5))))))))
    repeat first
      | ((with_reducible apply ends_bind); case h => first | (simp only [stp, stq]; first | done | rfl) | rfl)
      | ((with_reducible apply ends_t); case h => first | rfl | (simp only [stp, stq]; done))
      | ((with_reducible apply ends_f); case h => first | rfl | (simp only [stp, stq]; done))
    exact ends_some (.inl ⟨rfl, k, by omega, i + 1, _, _, _, _, _, _, _, by first | rfl | (rw [← e3]; rfl), u8l_keep _ _, u8l_keep _ _, by omega⟩)
end Go.Sy
