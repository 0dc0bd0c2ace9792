/-
  What the functions of numbers and bits compute, as the reader reads them.
-/
import Derived.Test.YtjpbamjmkjmfjaaPfBase
import Derived.Test.YtjpbamjmkjmfjaaPlNum
namespace Go.Sy
open Go.Proofs Num

theorem cv_8_64 (bx : Bx) (n : Int) : convA Try.prog bx 5 3 (.v (.int .u8 n)) = some (.v (.int .i64 (IntKind.i64.wrap n)), bx) := by kernel_rfl
theorem len_b (f : Bool) (b : List UInt8) : lenA Try.prog 54 (byt f b) = some (.v (.int .i64 b.length)) := by kernel_rfl
theorem w8 (x : UInt8) : IntKind.i64.wrap (x.toNat : Int) = (x.toNat : Int) := by
  have := UInt8.toNat_lt x
  rw [wrap64]
  omega
theorem nat8 (i : Nat) (h : i < 2 ^ 62) : IntKind.i64.wrap ((i : Int).tdiv 8) = ((i / 8 : Nat) : Int) ∧ (i : Int).tmod 8 = ((i % 8 : Nat) : Int) ∧ IntKind.i64.wrap ((i : Int) + 1) = ((i + 1 : Nat) : Int) := by
  refine ⟨?_, ?_, ?_⟩
  · rw [Int.tdiv_eq_ediv_of_nonneg (by omega), wrap64]; omega
  · rw [Int.tmod_eq_emod_of_nonneg (by omega)]; omega
  · rw [wrap64]; omega
theorem bitAt_eq (b : List UInt8) (i : Nat) (h : i / 8 < b.length) : bitAt b i = tb b[i / 8] (i % 8) := by
  unfold bitAt
  rw [List.getD_eq_getElem?_getD, List.getElem?_eq_getElem h]
  rfl
theorem withB_eq (b : List UInt8) (i : Nat) (on : Bool) (h : i / 8 < b.length) : withB b i on = b.set (i / 8) (sb b[i / 8] (i % 8) on) := by
  unfold withB
  rw [List.getD_eq_getElem?_getD, List.getElem?_eq_getElem h]
  rfl
/-- what 'Bit' answers -/
def bitV (b : List UInt8) (i : Int) : AV := if i < 0 ∨ 8 * b.length ≤ i then .tup [.v (.bool false), .v (.int .i64 2)] else .tup [.v (.bool (bitAt b i.toNat)), .v (.int .i64 0)]
theorem bitV_no (b : List UInt8) (i : Int) (h : i < 0 ∨ 8 * b.length ≤ i) : bitV b i = .tup [.v (.bool false), .v (.int .i64 2)] := if_pos h
theorem bitV_ok (b : List UInt8) (i : Nat) (h : i < 8 * b.length) : bitV b i = .tup [.v (.bool (bitAt b i)), .v (.int .i64 0)] := by
  unfold bitV
  rw [if_neg (by omega)]
  rfl





/-- how many of so many bits there are -/
def lim (b : List UInt8) (n : Int) : Nat := (min n (8 * b.length)).toNat
theorem lim_le (b : List UInt8) (n : Int) : lim b n ≤ 8 * b.length := by unfold lim; omega



/-- from where a search goes on -/
def frm (z : Int) : Nat := (max z 0).toNat
/-- what 'First' answers -/
def fstV (b : List UInt8) (from_ z : Int) : Int := fst0 b (frm from_) (lim b z - frm from_)



/-- what 'get' answers -/
def getV (k : IntKind) (b : List UInt8) (a : Int) (n : Nat) : AV := if a < 0 ∨ b.length < a + n then .tup [.v (.int k 0), .v (.int .i64 7)] else .tup [.v (.int k (le ((b.drop a.toNat).take n) : Nat)), .v (.int .i64 0)]

theorem le_lt2 (l : List UInt8) (h : l.length ≤ 2) : le l < 65536 := by
  have h1 := le_lt l
  have h2 : 256 ^ l.length ≤ 256 ^ 2 := Nat.pow_le_pow_right (by omega) h
  omega

theorem sb_eq (x : UInt8) (m : Nat) : sb x m false = x &&& ~~~ msk m ∧ sb x m true = (x &&& ~~~ msk m) ||| msk m := ⟨rfl, rfl⟩
/-- what 'With' answers -/
def withV (b : List UInt8) (i : Int) (on : Bool) : AV := if i < 0 ∨ 8 * b.length ≤ i then .tup [byt false [], .v (.int .i64 2)] else .tup [byt false (withB b i.toNat on), .v (.int .i64 0)]


/-! ## numbers that are put -/
theorem wr8 (y : Nat) : IntKind.u8.wrap (y : Int) = ((UInt8.ofNat y).toNat : Int) := by
  rw [wrap8, UInt8.toNat_ofNat']
  omega
/-- a number's bytes -/
def p16 (x : Nat) : List UInt8 := [UInt8.ofNat x, UInt8.ofNat (x / 256)]
def p32 (x : Nat) : List UInt8 := [UInt8.ofNat x, UInt8.ofNat (x / 256), UInt8.ofNat (x / 65536), UInt8.ofNat (x / 16777216)]
abbrev a16 (x : Nat) : AV := .agg [u8 (UInt8.ofNat x), u8 (UInt8.ofNat (x / 256))]
abbrev a32 (x : Nat) : AV := .agg [u8 (UInt8.ofNat x), u8 (UInt8.ofNat (x / 256)), u8 (UInt8.ofNat (x / 65536)), u8 (UInt8.ofNat (x / 16777216))]
theorem le_p16 (x : Nat) (h : x < 65536) : le (p16 x) = x := by
  unfold p16
  simp only [le, UInt8.toNat_ofNat']
  omega
theorem le_p32 (x : Nat) (h : x < 4294967296) : le (p32 x) = x := by
  unfold p32
  simp only [le, UInt8.toNat_ofNat']
  omega
theorem fd (x c : Nat) : (x : Int).fdiv c = ((x / c : Nat) : Int) := by
  rw [Int.fdiv_eq_ediv_of_nonneg _ (by omega)]
  simp
theorem put32_ev (m : Nat) (x : Nat) : cf (evFn cx0 ext0 (m + 10)) 26 [.v (.int .u32 x)] = some (a32 x) := by
  have h : cf (evFn cx0 ext0 (m + 10)) 26 [.v (.int .u32 x)] = some (.agg [.v (.int .u8 (IntKind.u8.wrap ((x : Int).fdiv (2 ^ 0)))), .v (.int .u8 (IntKind.u8.wrap ((x : Int).fdiv (2 ^ 8)))), .v (.int .u8 (IntKind.u8.wrap ((x : Int).fdiv (2 ^ 16)))), .v (.int .u8 (IntKind.u8.wrap ((x : Int).fdiv (2 ^ 24))))]) := by kernel_rfl
  rw [h, show (2 : Int) ^ 0 = ((1 : Nat) : Int) from rfl, show (2 : Int) ^ 8 = ((256 : Nat) : Int) from rfl, show (2 : Int) ^ 16 = ((65536 : Nat) : Int) from rfl, show (2 : Int) ^ 24 = ((16777216 : Nat) : Int) from rfl, fd, fd, fd, fd, wr8, wr8, wr8, wr8, Nat.div_one]
theorem tm (x c : Nat) (h : 256 ∣ c ∨ True) : (x : Int).tmod c = ((x % c : Nat) : Int) := by
  rw [Int.tmod_eq_emod_of_nonneg (by omega)]
  simp
theorem td (x c : Nat) : (x : Int).tdiv c = ((x / c : Nat) : Int) := by
  rw [Int.tdiv_eq_ediv_of_nonneg (by omega)]
  simp
theorem ofNat_mod (x : Nat) : UInt8.ofNat (x % 256) = UInt8.ofNat x := by
  apply UInt8.toNat_inj.1
  rw [UInt8.toNat_ofNat', UInt8.toNat_ofNat']
  omega
end Go.Sy
