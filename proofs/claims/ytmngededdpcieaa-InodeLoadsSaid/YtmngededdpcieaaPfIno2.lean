/-
  Layer 10: an inode's bytes; inodes in loads.
-/
import Derived.Test.YtmngededdpcieaaPfIno
import Derived.Test.YtmngededdpcieaaPfNum
namespace Go.Sy
open Go.Proofs Num

def pr16 (x : Int) : List AV := [.v (.int .u8 (IntKind.u8.wrap x)), .v (.int .u8 (IntKind.u8.wrap (x.fdiv (2 ^ 8))))]
def pr32 (x : Int) : List AV := [.v (.int .u8 (IntKind.u8.wrap (x.fdiv (2 ^ 0)))), .v (.int .u8 (IntKind.u8.wrap (x.fdiv (2 ^ 8)))), .v (.int .u8 (IntKind.u8.wrap (x.fdiv (2 ^ 16)))), .v (.int .u8 (IntKind.u8.wrap (x.fdiv (2 ^ 24))))]
theorem iput_raw (m : Nat) (k l s d e f g a b : Int) : cf (evFn cx0 ext0 (m + 20)) 16 [.agg (inoL k l s d e f g a b)] = some (.agg ([.v (.int .u8 k), .v (.int .u8 l)] ++ pr32 s ++ pr16 d ++ pr16 e ++ pr16 f ++ pr16 g ++ pr16 a ++ pr16 b)) := by kernel_rfl
theorem pr16_eq (x : Nat) : pr16 x = u8l (p16 x) := by
  unfold pr16
  rw [show (2 : Int) ^ 8 = ((256 : Nat) : Int) from rfl, fd, wr8, wr8]
  rfl
theorem pr32_eq (x : Nat) : pr32 x = u8l (p32 x) := by
  unfold pr32
  rw [show (2 : Int) ^ 0 = ((1 : Nat) : Int) from rfl, show (2 : Int) ^ 8 = ((256 : Nat) : Int) from rfl, show (2 : Int) ^ 16 = ((65536 : Nat) : Int) from rfl, show (2 : Int) ^ 24 = ((16777216 : Nat) : Int) from rfl, fd, fd, fd, fd, wr8, wr8, wr8, wr8, Nat.div_one]
  rfl

/-- an inode's bytes -/
def ib (x : Ino) : List UInt8 := [x.k, x.l] ++ p32 x.s ++ p16 x.d ++ p16 x.e ++ p16 x.f ++ p16 x.g ++ p16 x.a ++ p16 x.b
theorem ib_len (x : Ino) : (ib x).length = 18 := rfl
theorem IPut_ev {n : Nat} (hn : 20 ≤ n) (x : Ino) : cf (evFn cx0 ext0 n) 16 [.agg x.cells] = some (.agg (u8l (ib x))) := by
  obtain ⟨m, rfl⟩ : ∃ m, n = m + 20 := ⟨n - 20, by omega⟩
  unfold Ino.cells
  rw [iput_raw]
  simp only [pr16_eq, pr32_eq]
  rfl

def gb (x : Int) (i : Nat) (y : Int) : Int := bitI .or .u32 x (IntKind.u32.wrap (IntKind.u32.wrap y * 2 ^ (min (8 * i) IntKind.u32.bits)))
def g16 (x y : Int) : Int := IntKind.u16.wrap (gb (gb 0 0 x) 1 y)
def g32 (x y z w : Int) : Int := gb (gb (gb (gb 0 0 x) 1 y) 2 z) 3 w
theorem iget_raw (m : Nat) (b0 b1 b2 b3 b4 b5 b6 b7 b8 b9 b10 b11 b12 b13 b14 b15 b16 b17 : Int) : cf (evFn cx0 ext0 (m + 20)) 18 [.agg [.v (.int .u8 b0), .v (.int .u8 b1), .v (.int .u8 b2), .v (.int .u8 b3), .v (.int .u8 b4), .v (.int .u8 b5), .v (.int .u8 b6), .v (.int .u8 b7), .v (.int .u8 b8), .v (.int .u8 b9), .v (.int .u8 b10), .v (.int .u8 b11), .v (.int .u8 b12), .v (.int .u8 b13), .v (.int .u8 b14), .v (.int .u8 b15), .v (.int .u8 b16), .v (.int .u8 b17)]] = some (.agg (inoL b0 b1 (g32 b2 b3 b4 b5) (g16 b6 b7) (g16 b8 b9) (g16 b10 b11) (g16 b12 b13) (g16 b14 b15) (g16 b16 b17))) := by kernel_rfl
theorem gb_eq (X i : Nat) (y : UInt8) (hi : i < 4) (hX : X < 256 ^ i) : gb X i y.toNat = ((X + 256 ^ i * y.toNat : Nat) : Int) := by
  have hy := UInt8.toNat_lt y
  unfold gb
  rw [show IntKind.u32.wrap ((y.toNat : Nat) : Int) = y.toNat by rw [wrap32]; omega]
  exact or_byte X i y.toNat hi hX (by omega)
theorem g16_eq (x y : UInt8) : g16 x.toNat y.toNat = (le [x, y] : Nat) := by
  have hx := UInt8.toNat_lt x
  have hy := UInt8.toNat_lt y
  unfold g16
  rw [show (0 : Int) = ((0 : Nat) : Int) from rfl, gb_eq 0 0 x (by omega) (by omega), gb_eq _ 1 y (by omega) (by omega), wrap16]
  simp only [le]
  omega
theorem g32_eq (x y z w : UInt8) : g32 x.toNat y.toNat z.toNat w.toNat = (le [x, y, z, w] : Nat) := by
  have hx := UInt8.toNat_lt x
  have hy := UInt8.toNat_lt y
  have hz := UInt8.toNat_lt z
  unfold g32
  rw [show (0 : Int) = ((0 : Nat) : Int) from rfl, gb_eq 0 0 x (by omega) (by omega), gb_eq _ 1 y (by omega) (by omega), gb_eq _ 2 z (by omega) (by omega), gb_eq _ 3 w (by omega) (by omega)]
  simp only [le]
  omega
theorem ex_cons {n : Nat} {l : List UInt8} (h : l.length = n + 1) : ∃ a t, l = a :: t ∧ t.length = n := by
  cases l with
  | nil => simp at h
  | cons a t => exact ⟨a, t, rfl, by simpa using h⟩
/-- the inode of bytes -/
def gi (b : List UInt8) : Ino := ⟨b.getD 0 0, b.getD 1 0, le ((b.drop 2).take 4), le ((b.drop 6).take 2), le ((b.drop 8).take 2), le ((b.drop 10).take 2), le ((b.drop 12).take 2), le ((b.drop 14).take 2), le ((b.drop 16).take 2)⟩
theorem IGet_ev {n : Nat} (hn : 20 ≤ n) (t0 : List UInt8) (h0 : t0.length = 18) : cf (evFn cx0 ext0 n) 18 [.agg (u8l t0)] = some (.agg (gi t0).cells) := by
  obtain ⟨m, rfl⟩ : ∃ m, n = m + 20 := ⟨n - 20, by omega⟩
  obtain ⟨b0, t1, rfl, h1⟩ := ex_cons h0
  obtain ⟨b1, t2, rfl, h2⟩ := ex_cons h1
  obtain ⟨b2, t3, rfl, h3⟩ := ex_cons h2
  obtain ⟨b3, t4, rfl, h4⟩ := ex_cons h3
  obtain ⟨b4, t5, rfl, h5⟩ := ex_cons h4
  obtain ⟨b5, t6, rfl, h6⟩ := ex_cons h5
  obtain ⟨b6, t7, rfl, h7⟩ := ex_cons h6
  obtain ⟨b7, t8, rfl, h8⟩ := ex_cons h7
  obtain ⟨b8, t9, rfl, h9⟩ := ex_cons h8
  obtain ⟨b9, t10, rfl, h10⟩ := ex_cons h9
  obtain ⟨b10, t11, rfl, h11⟩ := ex_cons h10
  obtain ⟨b11, t12, rfl, h12⟩ := ex_cons h11
  obtain ⟨b12, t13, rfl, h13⟩ := ex_cons h12
  obtain ⟨b13, t14, rfl, h14⟩ := ex_cons h13
  obtain ⟨b14, t15, rfl, h15⟩ := ex_cons h14
  obtain ⟨b15, t16, rfl, h16⟩ := ex_cons h15
  obtain ⟨b16, t17, rfl, h17⟩ := ex_cons h16
  obtain ⟨b17, t18, rfl, h18⟩ := ex_cons h17
  obtain rfl := List.length_eq_zero_iff.mp h18
  have := iget_raw m (b0.toNat) (b1.toNat) (b2.toNat) (b3.toNat) (b4.toNat) (b5.toNat) (b6.toNat) (b7.toNat) (b8.toNat) (b9.toNat) (b10.toNat) (b11.toNat) (b12.toNat) (b13.toNat) (b14.toNat) (b15.toNat) (b16.toNat) (b17.toNat)
  simp only [g16_eq, g32_eq] at this
  exact this
theorem gi_ib (x : Ino) (h : x.ok) : gi (ib x) = x := by
  obtain ⟨h1, h2, h3, h4, h5, h6, h7⟩ := h
  have e : gi (ib x) = ⟨x.k, x.l, le (p32 x.s), le (p16 x.d), le (p16 x.e), le (p16 x.f), le (p16 x.g), le (p16 x.a), le (p16 x.b)⟩ := rfl
  rw [e, le_p32 _ h1, le_p16 _ h2, le_p16 _ h3, le_p16 _ h4, le_p16 _ h5, le_p16 _ h6, le_p16 _ h7]
end Go.Sy
