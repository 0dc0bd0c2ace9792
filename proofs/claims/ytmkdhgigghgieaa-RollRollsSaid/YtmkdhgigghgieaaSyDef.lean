/-
  Definitions of a small symbolic reader of the machine's code: values as data ('AV'), the machine's memory as a list of boxes that a call owns, and a function that runs code on them. No proofs of soundness here: see SySound.
-/
import Derived.WalkKit
import Derived.Still
namespace Go.Sy

/-- Values as data. 'sl': a slice whose cells nobody changes; 'bp', 'bsl': a pointer, a slice into a box that the call owns; 'ip': a pointer to cells that nobody changes; 'ns': a slice without room; 'gs', 'gp': a slice of a box that only grows, a pointer to some of its cells. -/
inductive AV where
  | v (x : Value)
  | agg (l : List AV)
  | tup (l : List AV)
  | sl (n : Nat) (l : List AV) (lent : Bool)
  | bp (b off : Nat)
  | bsl (b off n e : Nat)
  | ip (l : List AV) (lent : Bool)
  | fn (f : FuncId) (pre caps : List AV)
  | mp (b : Nat)
  | gs (b n e : Nat)
  | gp (b o m : Nat)
  | ns
  | junk
  deriving Inhabited

abbrev Bx := List (List AV)
abbrev Env := List (Nat × AV)

structure S where
  env : Env
  bx : Bx

inductive Ex where
  | normal
  | exit (id : Nat)
  | ret

/-- How a function is called. 'frozen': its slices are handed in as they read, its result comes back as it reads; 'boxed': a slice that it hands back is a new box; 'objT', 'objK': it sees and may change all boxes, its own are dropped, or kept; 'objR': it sees all boxes, and leaves them as they are; 'fresh': as 'boxed', and its result is a slice. -/
inductive Md where
  | frozen | boxed | objT | objK | objR | fresh
  deriving DecidableEq

def AV.cells : AV → List AV
  | .agg l => l
  | x => [x]

/-- Is it known how many cells it has, and may these be stored? -/
def AV.okc : AV → Bool
  | .v y => y.oneCell'
  | .junk => false
  | .tup _ => false
  | _ => true

mutual
/-- What is told of boxes that are not kept is forgotten. -/
def AV.keep (p : Nat → Bool) : AV → AV
  | .agg l => .agg (AV.keepL p l)
  | .tup l => .tup (AV.keepL p l)
  | .bp b o => if p b then .bp b o else .junk
  | .bsl b o n e => if p b then .bsl b o n e else .junk
  | .fn f pre caps => .fn f (AV.keepL p pre) (AV.keepL p caps)
  | .mp b => if p b then .mp b else .junk
  | .gs b n e => if p b then .gs b n e else .junk
  | .gp b o m => if p b then .gp b o m else .junk
  | .v x => .v x
  | .sl n l f => .sl n l f
  | .ip l f => .ip l f
  | .ns => .ns
  | .junk => .junk
def AV.keepL (p : Nat → Bool) : List AV → List AV
  | [] => []
  | x :: r => x.keep p :: AV.keepL p r
end

mutual
/-- What hangs on boxes, or is lent, is forgotten. -/
def AV.bare : AV → AV
  | .agg l => .agg (AV.bareL l)
  | .tup l => .tup (AV.bareL l)
  | .bp _ _ => .junk
  | .bsl _ _ _ _ => .junk
  | .fn f pre caps => .fn f (AV.bareL pre) (AV.bareL caps)
  | .mp _ => .junk
  | .gs _ _ _ => .junk
  | .gp _ _ _ => .junk
  | .v x => .v x
  | .sl n l f => if f then .junk else .sl n l false
  | .ip l f => if f then .junk else .ip l false
  | .ns => .ns
  | .junk => .junk
def AV.bareL : List AV → List AV
  | [] => []
  | x :: r => x.bare :: AV.bareL r
end

theorem AV.bareL_eq (l : List AV) : AV.bareL l = l.map AV.bare := by
  induction l with
  | nil => rfl
  | cons x r ih => simp [AV.bareL, ih]

theorem AV.keepL_eq (p : Nat → Bool) (l : List AV) : AV.keepL p l = l.map (AV.keep p) := by
  induction l with
  | nil => rfl
  | cons x r ih => simp [AV.keepL, ih]

/-- A value as it reads now. -/
def frz (bx : Bx) (lent : Bool) : Nat → AV → AV
  | 0, _ => .junk
  | n + 1, x => match x with
    | .v x => .v x
    | .agg l => .agg (l.map (frz bx lent n))
    | .tup l => .tup (l.map (frz bx lent n))
    | .bsl b off m e => match bx[b]? with
      | some l => .sl m (((l.drop off).take (m * e)).map (frz bx lent n)) lent
      | none => .junk
    | .sl m l f => if f && !lent then .junk else .sl m l f
    | .ip l f => if f && !lent then .junk else .ip l f
    | .fn f pre caps => .fn f (pre.map (frz bx lent n)) (caps.map (frz bx lent n))
    | .ns => .ns
    | .mp _ => .junk
    | .gs _ _ _ => .junk
    | .gp _ _ _ => .junk
    | .bp b off => match bx[b]? with
      | some l => .ip ((l.drop off).map (frz bx lent n)) lent
      | none => .junk
    | .junk => .junk

def get : Env → Nat → AV
  | [], _ => .junk
  | (k, x) :: r, t => if k = t then x else get r t

def opnd (env : Env) : Operand → AV
  | .tmp t => get env t
  | .const v => .v v
  | .global _ => .junk
  | .func f => .fn f [] []

/-! ## types -/
def szA (P : Program) (t : TypeId) : Option Nat := (P.info? t).map (·.size)
def byA (P : Program) (t : TypeId) : Option Nat := (P.info? t).map (·.bytes)
def zcA (P : Program) (t : TypeId) : Option (List AV) := ((P.info? t).bind (·.zero)).bind fun z => if z.cells.toList.all (·.oneCell') then some (z.cells.toList.map .v) else none
def agA (P : Program) (t : TypeId) : Option Bool := (P.underlying t).map fun d => match d with | .struct _ | .array _ _ => true | _ => false
/-- a slice's, an array's element type -/
def elA (P : Program) (t : TypeId) : Option TypeId := (P.underlying t).bind fun d => match d with | .slice e => some e | .array _ e => some e | _ => none
def isSl (P : Program) (t : TypeId) : Bool := match P.underlying t with | some (.slice _) => true | _ => false
def isStr (P : Program) (t : TypeId) : Bool := match P.underlying t with | some .string => true | _ => false
def arA (P : Program) (t : TypeId) : Option (Nat × TypeId) := (P.underlying t).bind fun d => match d with | .array n e => some (n, e) | _ => none
/-- a struct's field: its place, its type -/
def fiA (P : Program) (t : TypeId) (i : Nat) : Option (Nat × TypeId) := (P.underlying t).bind fun d => match d with | .struct fs => (fs[i]?).map fun f => (f.offset, f.type) | _ => none
def inA (P : Program) (t : TypeId) : Option IntKind := (P.underlying t).bind fun d => match d with | .int k => some k | _ => none

/-! ## memory -/
def partA (P : Program) (t : TypeId) (l : List AV) (off : Nat) : Option AV :=
  match szA P t, agA P t with
  | some n, some true => if off + n ≤ l.length then some (.agg ((l.drop off).take n)) else none
  | some _, some false => l[off]?
  | _, _ => none

def loadA (P : Program) (t : TypeId) (bx : Bx) : AV → Option AV
  | .bp b off => (bx[b]?).bind fun l => partA P t l off
  | .ip l _ => partA P t l 0
  | .gp b o m => (bx[b]?).bind fun l => partA P t ((l.drop o).take m) 0
  | _ => none

def storeL : List AV → Nat → List AV → List AV
  | l, _, [] => l
  | l, off, x :: r => storeL (l.set off x) (off + 1) r

def storeA (P : Program) (t : TypeId) (bx : Bx) (a x : AV) : Option Bx :=
  match a, szA P t with
  | .bp b off, some n => (bx[b]?).bind fun l => if x.okc = true ∧ x.cells.length = n ∧ off + n ≤ l.length then some (bx.set b (storeL l off x.cells)) else none
  | _, _ => none

/-! ## operators -/
def bitI (op : BinOp) (k : IntKind) (x y : Int) : Int :=
  let a := BitVec.ofInt k.bits x
  let b := BitVec.ofInt k.bits y
  match op with
  | .and => k.wrap (a &&& b).toNat
  | .or => k.wrap (a ||| b).toNat
  | .xor => k.wrap (a ^^^ b).toNat
  | .andNot => k.wrap (a &&& ~~~b).toNat
  | _ => 0

def intA (op : BinOp) (k : IntKind) (a b : Int) : Option Value :=
  match op with
  | .add => some (.int k (k.wrap (a + b)))
  | .sub => some (.int k (k.wrap (a - b)))
  | .mul => some (.int k (k.wrap (a * b)))
  | .quo => if b = 0 then none else some (.int k (k.wrap (a.tdiv b)))
  | .rem => if b = 0 then none else some (.int k (a.tmod b))
  | .and => some (.int k (bitI .and k a b))
  | .or => some (.int k (bitI .or k a b))
  | .xor => some (.int k (bitI .xor k a b))
  | .andNot => some (.int k (bitI .andNot k a b))
  | .eql => some (.bool (a == b))
  | .neq => some (.bool (a != b))
  | .lss => some (.bool (decide (a < b)))
  | .leq => some (.bool (decide (a ≤ b)))
  | .gtr => some (.bool (decide (a > b)))
  | .geq => some (.bool (decide (a ≥ b)))
  | _ => none

def shA (op : BinOp) (k : IntKind) (a b : Int) : Option Value :=
  if b < 0 then none else
  match op with
  | .shl => some (.int k (k.wrap (a * 2 ^ (min b.toNat k.bits))))
  | .shr => some (.int k (a.fdiv (2 ^ (min b.toNat k.bits))))
  | _ => none

def strA (op : BinOp) (a b : ByteArray) : Option Value :=
  match op with
  | .eql => some (.bool (a.toList == b.toList))
  | .neq => some (.bool !(a.toList == b.toList))
  | _ => none

def binV (P : Program) (op : BinOp) (t : TypeId) : Value → Value → Option Value
  | .int k a, .int k' b =>
    match op with
    | .shl => shA .shl k a b
    | .shr => shA .shr k a b
    | op => if k = k' then intA op k a b else none
  | .string a, .string b => strA op a b
  | .bool a, .bool b => match op, P.underlying t with
    | .eql, some .bool => some (.bool (a == b))
    | .neq, some .bool => some (.bool !(a == b))
    | _, _ => none
  | .pointer none, .pointer none => match op, P.underlying t with
    | .eql, some (.pointer _) => some (.bool true)
    | .neq, some (.pointer _) => some (.bool false)
    | _, _ => none
  | _, _ => none

/-- Are the cells of two values of a type the same? Only of whole numbers, bools and strings. -/
def eq1 : AV → AV → Option Bool
  | .v (.int k a), .v (.int k' b) => if k = k' then some (a == b) else none
  | .v (.bool a), .v (.bool b) => some (a == b)
  | .v (.string a), .v (.string b) => some (a.toList == b.toList)
  | _, _ => none

def eqL : List AV → List AV → Option Bool
  | [], [] => some true
  | x :: xs, y :: ys => (eq1 x y).bind fun b => (eqL xs ys).map fun c => b && c
  | _, _ => none

/-- the kind of a cell: what '==' asks of its type -/
inductive CK where
  | int (k : IntKind) | bool | str
  deriving DecidableEq

def CK.fits : CK → AV → Bool
  | .int k, .v (.int k' _) => k == k'
  | .bool, .v (.bool _) => true
  | .str, .v (.string _) => true
  | _, _ => false

def ckF (P : Program) (g : TypeId → Option (List CK)) : List Field → Nat → Option (List CK)
  | [], _ => some []
  | f :: fs, off => if f.name = "_" ∨ f.offset ≠ off then none else
    (g f.type).bind fun l => if (P.info? f.type).map (·.size) = some l.length ∧ 0 < l.length then (ckF P g fs (off + l.length)).map fun m => l ++ m else none

/-- the kinds of a type's cells, if '==' looks at all of them, and at nothing else -/
def ckA (P : Program) : Nat → TypeId → Option (List CK)
  | 0, _ => none
  | d + 1, t => match P.underlying t with
    | some (.int k) => some [.int k]
    | some .bool => some [.bool]
    | some .string => some [.str]
    | some (.array n e) => (ckA P d e).bind fun l => if (P.info? e).map (·.size) = some l.length ∧ 0 < l.length then some (List.replicate n l).flatten else none
    | some (.struct fs) => if P.stoodInHeld t then none else ckF P (ckA P d) fs.toList 0
    | _ => none

def eqA (P : Program) (t : TypeId) (xs ys : List AV) : Option Bool :=
  if P.eqGuardType P.depth t || agA P t != some true then none else
  (ckA P 6 t).bind fun l => if l.length = xs.length ∧ l.length = ys.length ∧ (l.zip xs).all (fun p => p.1.fits p.2) ∧ (l.zip ys).all (fun p => p.1.fits p.2) then eqL xs ys else none

def binA (P : Program) (op : BinOp) (t : TypeId) : AV → AV → Option AV
  | .v a, .v b => (binV P op t a b).map .v
  | .agg l, .agg m => match op with
    | .eql => (eqA P t l m).map fun b => .v (.bool b)
    | .neq => (eqA P t l m).map fun b => .v (.bool !b)
    | _ => none
  | .bp _ _, .v (.pointer none) => match op, P.underlying t with
    | .eql, some (.pointer _) => some (.v (.bool false))
    | .neq, some (.pointer _) => some (.v (.bool true))
    | _, _ => none
  | .ip _ _, .v (.pointer none) => match op, P.underlying t with
    | .eql, some (.pointer _) => some (.v (.bool false))
    | .neq, some (.pointer _) => some (.v (.bool true))
    | _, _ => none
  | .v (.pointer none), .bp _ _ => match op, P.underlying t with
    | .eql, some (.pointer _) => some (.v (.bool false))
    | .neq, some (.pointer _) => some (.v (.bool true))
    | _, _ => none
  | .sl n _ _, .v (.slice none 0 0) => if 0 < n then (match op, P.underlying t with
    | .eql, some (.slice _) => some (.v (.bool false))
    | .neq, some (.slice _) => some (.v (.bool true))
    | _, _ => none) else none
  | .bsl _ _ _ e, .v (.slice none 0 0) => if 0 < e then (match op, P.underlying t with
    | .eql, some (.slice _) => some (.v (.bool false))
    | .neq, some (.slice _) => some (.v (.bool true))
    | _, _ => none) else none
  | _, _ => none

def unA (op : UnOp) : AV → Option AV
  | .v (.int k n) => match op with
    | .neg => some (.v (.int k (k.wrap (0 - n))))
    | .xor => some (.v (.int k (bitI .xor k (if k.signed then -1 else k.max) n)))
    | _ => none
  | .v (.bool b) => match op with
    | .not => some (.v (.bool !b))
    | _ => none
  | _ => none

/-! ## slices, arrays, structs -/
def u8s (s : ByteArray) : List AV := s.data.toList.map fun b => .v (.int .u8 b.toNat)

def bytesA : List AV → Option (List UInt8)
  | [] => some []
  | .v (.int .u8 n) :: r => (bytesA r).map fun l => UInt8.ofNat n.toNat :: l
  | _ => none

/-- a slice's length, and its cells -/
def readA (bx : Bx) : AV → Option (Nat × List AV)
  | .sl n l _ => some (n, l)
  | .bsl b off n e => (bx[b]?).map fun l => (n, (l.drop off).take (n * e))
  | .gs b n e => (bx[b]?).map fun l => (n, l.take (n * e))
  | .ns => some (0, [])
  | .v (.slice none 0 0) => some (0, [])
  | .v (.string s) => some (s.size, u8s s)
  | _ => none

def lenA (P : Program) (t : TypeId) (x : AV) : Option AV :=
  match arA P t with
  | some (n, _) => some (.v (.int .i64 n))
  | none => match x with
    | .sl n _ _ => if isSl P t then some (.v (.int .i64 n)) else none
    | .bsl _ _ n _ => if isSl P t then some (.v (.int .i64 n)) else none
    | .gs _ n _ => if isSl P t then some (.v (.int .i64 n)) else none
    | .ns => if isSl P t then some (.v (.int .i64 0)) else none
    | .v (.slice none 0 0) => if isSl P t then some (.v (.int .i64 0)) else none
    | .v (.string s) => if isStr P t then some (.v (.int .i64 s.size)) else none
    | _ => none

def idxI (len : Nat) (off sz : Nat) : AV → Option Nat
  | .v (.int _ i) => if 0 ≤ i ∧ i < len then some (off + i.toNat * sz) else none
  | _ => none

def indexAddrA (P : Program) (t : TypeId) (x i : AV) : Option AV :=
  match x with
  | .bp b off => (arA P t).bind fun (n, e) => (szA P e).bind fun sz => (idxI n off sz i).map fun o => .bp b o
  | .ip l f => (arA P t).bind fun (n, e) => (szA P e).bind fun sz => (idxI n 0 sz i).map fun o => .ip (l.drop o) f
  | .bsl b off n e => if isSl P t then (elA P t).bind fun et => if szA P et = some e then (idxI n off e i).map fun o => .bp b o else none else none
  | .sl n l f => if isSl P t then (elA P t).bind fun et => (szA P et).bind fun sz => (idxI n 0 sz i).bind fun o => if n * sz ≤ l.length then some (.ip (l.drop o) f) else none else none
  | .gs b n e => if isSl P t then (elA P t).bind fun et => if szA P et = some e then (idxI n 0 e i).map fun o => .gp b o e else none else none
  | _ => none

def fieldAddrA (P : Program) (t : TypeId) (x : AV) (i : Nat) : Option AV :=
  (fiA P t i).bind fun (off, ft) => if szA P ft = some 0 then none else
  match x with
  | .bp b o => if (szA P ft).isSome then some (.bp b (o + off)) else none
  | .ip l f => if (szA P ft).isSome then some (.ip (l.drop off) f) else none
  | _ => none

def indexA (P : Program) (t : TypeId) (x i : AV) : Option AV :=
  match x with
  | .agg l => (arA P t).bind fun (n, e) => (szA P e).bind fun sz => (idxI n 0 sz i).bind fun o => partA P e l o
  | .v (.string s) => if isStr P t then (match i with
    | .v (.int _ n) => if 0 ≤ n ∧ n < s.size then some (.v (.int .u8 (s.data.getD n.toNat 0).toNat)) else none
    | _ => none) else none
  | _ => none

def fieldA (P : Program) (t : TypeId) (x : AV) (i : Nat) : Option AV :=
  match x with
  | .agg l => (fiA P t i).bind fun (off, ft) => partA P ft l off
  | _ => none

/-- a bound of a slice expression -/
def bndA (most : Nat) : AV → Option Nat
  | .v (.int _ i) => if 0 ≤ i ∧ i ≤ most then some i.toNat else none
  | _ => none

def loA (h : Nat) : Option AV → Option Nat
  | none => some 0
  | some v => bndA h v
def hiA (n : Nat) : Option AV → Option Nat
  | none => some n
  | some v => bndA n v

def slV : AV → Bool
  | .sl .. => true
  | .bsl .. => true
  | .ns => true
  | .v (.slice _ _ _) => true
  | _ => false

/-- 'x[:0:0]' -/
def slice0A (P : Program) (t : TypeId) (x m : AV) (lo hi : Option AV) : Option AV :=
  if isSl P t && ((elA P t).bind (szA P)).isSome && slV x then
    (match lo, hi with
    | none, some h => if bndA 0 h = some 0 ∧ bndA 0 m = some 0 then some .ns else none
    | _, _ => none)
  else none

def sliceA (P : Program) (bx : Bx) (t : TypeId) (x : AV) (lo hi mx : Option AV) : Option AV :=
  match mx with
  | some m => slice0A P t x m lo hi
  | none => match x with
    | .bp b off => (arA P t).bind fun (n, e) => (szA P e).bind fun sz => (bx[b]?).bind fun cs => if off + n * sz ≤ cs.length ∧ 0 < sz then (hiA n hi).bind fun h => (loA h lo).bind fun l => some (.bsl b (off + l * sz) (h - l) sz) else none
    | .ip ls f => (arA P t).bind fun (n, e) => (szA P e).bind fun sz => if n * sz ≤ ls.length ∧ 0 < sz then (hiA n hi).bind fun h => (loA h lo).bind fun l => some (.sl (h - l) ((ls.drop (l * sz)).take ((h - l) * sz)) f) else none
    | .bsl b off n e => if isSl P t then (elA P t).bind fun et => if szA P et = some e then (hiA n hi).bind fun h => (loA h lo).bind fun l => some (.bsl b (off + l * e) (h - l) e) else none else none
    | .sl n ls f => if isSl P t then (elA P t).bind fun et => (szA P et).bind fun sz => (hiA n hi).bind fun h => (loA h lo).bind fun l => some (.sl (h - l) ((ls.drop (l * sz)).take ((h - l) * sz)) f) else none
    | .v (.string s) => if isStr P t then (hiA s.size hi).bind fun h => (loA h lo).bind fun l => some (.v (.string (s.extract l h))) else none
    | _ => none

/-- parts laid over cells -/
def fillA (place : Nat → Option (Nat × Nat)) : List AV → List (Nat × AV) → Option (List AV)
  | cs, [] => some cs
  | cs, (i, x) :: r => match place i with
    | none => none
    | some (off, sz) => if x.okc = true ∧ x.cells.length = sz ∧ off + sz ≤ cs.length then fillA place (storeL cs off x.cells) r else none

/-- a struct's fields: their places and sizes -/
def plA (P : Program) (t : TypeId) : Option (List (Nat × Nat)) := (P.underlying t).bind fun d => match d with
  | .struct fs => fs.toList.mapM fun f => (P.info? f.type).map fun i => (f.offset, i.size)
  | _ => none

def buildA (P : Program) (t : TypeId) (parts : List (Nat × AV)) : Option AV :=
  (zcA P t).bind fun z =>
  match plA P t with
  | some pl => (fillA (fun i => pl[i]?) z parts).map .agg
  | none => (arA P t).bind fun (_, e) => (szA P e).bind fun sz => (fillA (fun i => some (i * sz, sz)) z parts).map .agg

def zerosA (P : Program) (e : TypeId) (n : Nat) : Option (List AV) := (zcA P e).bind fun z => if szA P e = some z.length then some (List.replicate n z).flatten else none

def newBox (bx : Bx) (n e : Nat) (cs : List AV) : AV × Bx := (.bsl bx.length 0 n e, bx ++ [cs])

def buildSliceA (P : Program) (bx : Bx) (t : TypeId) (n : Nat) (parts : List (Nat × AV)) : Option (AV × Bx) :=
  if isSl P t then (elA P t).bind fun e => (szA P e).bind fun sz => (zerosA P e n).bind fun z => if n * sz > 2 ^ 24 ∨ sz = 0 then none else
    (fillA (fun i => some (i * sz, sz)) z parts).map fun cs => newBox bx n sz cs
  else none

def makeSliceA (P : Program) (bx : Bx) (t : TypeId) (n m : AV) : Option (AV × Bx) :=
  match n, m with
  | .v (.int _ l), .v (.int _ c) => if isSl P t ∧ l = c ∧ 0 ≤ l then
      (elA P t).bind fun e => (szA P e).bind fun sz => (byA P e).bind fun by_ => (zerosA P e l.toNat).bind fun z => if by_ * l ≤ 2 ^ 48 ∧ l < 2 ^ 63 ∧ 0 < sz then some (newBox bx l.toNat sz z) else none
    else none
  | _, _ => none

def convA (P : Program) (bx : Bx) (src dst : TypeId) (x : AV) : Option (AV × Bx) :=
  match P.underlying src, P.underlying dst with
  | some s, some d => match x with
    | .v (.int _ n) => match d with
      | .int k => some (.v (.int k (k.wrap n)), bx)
      | _ => none
    | .v (.string b) => match d with
      | .string => some (.v (.string b), bx)
      | .slice e => if inA P e = some .u8 then some (.bsl bx.length 0 b.size 1, bx ++ [u8s b]) else none
      | _ => none
    | .bsl b off n e => match s, d with
      | .slice e', .string => if inA P e' = some .u8 then (readA bx (.bsl b off n e)).bind fun r => if r.2.length = n then (bytesA r.2).map fun l => (.v (.string ⟨l.toArray⟩), bx) else none else none
      | .slice _, .slice e' => if src = dst ∧ 0 < e ∧ inA P e' = some .u8 then some (.bsl b off n e, bx) else none
      | _, _ => none
    | .sl n l _ => match s, d with
      | .slice e', .string => if inA P e' = some .u8 ∧ l.length = n then (bytesA l).map fun l => (.v (.string ⟨l.toArray⟩), bx) else none
      | _, _ => none
    | _ => none
  | _, _ => none

def arrPtrA (P : Program) (t : TypeId) (x : AV) : Option AV :=
  (arA P t).bind fun (n, e) =>
  match x with
  | .bsl b off m sz => if 0 < n ∧ n ≤ m ∧ szA P e = some sz then some (.bp b off) else none
  | .sl m l f => if 0 < n ∧ n ≤ m then some (.ip l f) else none
  | _ => none

/-! ## builtins -/
def minA (mx : Bool) : AV → AV → Option AV
  | .v (.int k x), .v (.int _ y) => some (.v (.int k (if mx then (if y > x then y else x) else (if y < x then y else x))))
  | _, _ => none

def minL (mx : Bool) : AV → List AV → Option AV
  | x, [] => some x
  | x, y :: r => (minA mx x y).bind fun z => minL mx z r

def isV : AV → Bool
  | .v _ => true
  | _ => false
/-- 'append': the first slice must be one without room, or a whole box. -/
def appendA (P : Program) (n0 : Nat) (env : Env) (bx : Bx) (t : TypeId) (x y : AV) : Option (AV × Env × Bx) :=
  if isSl P t then
    (elA P t).bind fun e => (szA P e).bind fun sz => (byA P e).bind fun by_ => (zcA P e).bind fun z => (readA bx y).bind fun (m, ys) =>
    if ys.length = m * sz ∧ 0 < sz ∧ z.length = sz ∧ 0 < by_ ∧ m * by_ ≤ 2 ^ 47 ∧ m < 2 ^ 48 then
      (match x with
      | .ns => if m = 0 then some (.ns, env, bx) else if sz = 64 ∧ ys.all isV = true then some (.gs bx.length m sz, env, bx ++ [ys]) else some (.bsl bx.length 0 m sz, env, bx ++ [ys])
      | .v (.slice none 0 0) => if m = 0 then some (.ns, env, bx) else if sz = 64 ∧ ys.all isV = true then some (.gs bx.length m sz, env, bx ++ [ys]) else some (.bsl bx.length 0 m sz, env, bx ++ [ys])
      | .gs b n e' => (bx[b]?).bind fun l => if l.length = n * sz ∧ e' = sz ∧ (n + m) * by_ ≤ 2 ^ 47 ∧ ys.all isV = true then some (.gs b (n + m) sz, env, bx.set b (l ++ ys)) else none
      | .bsl b off n e' => (bx[b]?).bind fun l => if off = 0 ∧ n0 ≤ b ∧ l.length = n * sz ∧ (e' = sz ∨ (e' = 0 ∧ n = 0)) ∧ (n + m) * by_ ≤ 2 ^ 47 then
          some (.bsl b 0 (n + m) (if n + m = 0 then e' else sz), env.map (fun p => (p.1, p.2.keep (· != b))), (bx.map fun l => l.map (AV.keep (· != b))).set b ((l ++ ys).map (AV.keep (· != b)))) else none
      | _ => none)
    else none
  else none

def copyA (P : Program) (bx : Bx) (t : TypeId) (x y : AV) : Option (AV × Bx) :=
  match x with
  | .bsl b off n e => if isSl P t then (elA P t).bind fun et => if szA P et = some e then
      (readA bx y).bind fun (m, ys) => (bx[b]?).bind fun l => if off + n * e ≤ l.length ∧ ys.length = m * e then
        some (.v (.int .i64 (min m n)), bx.set b (storeL l off (ys.take (min m n * e)))) else none else none
    else none
  | _ => none

def clearA (P : Program) (bx : Bx) (t : TypeId) (x : AV) : Option Bx :=
  match x with
  | .bsl b off n e => if isSl P t then (elA P t).bind fun et => if szA P et = some e then
      (zerosA P et n).bind fun z => (bx[b]?).bind fun l => if off + n * e ≤ l.length then some (bx.set b (storeL l off z)) else none else none
    else none
  | _ => none

/-! ## maps: a box of a head (the map's clock, its entries' stamps), and of pairs, in the order in which the machine keeps them; keys are whole numbers -/
/-- what is read: a variable, or a map's entry -/
inductive Rd where
  | ld (t : TypeId)
  | lk (t : TypeId) (i : AV) (ok : Bool)
/-- a map's types -/
def mpT (P : Program) (t : TypeId) : Option (TypeId × TypeId) := (P.underlying t).bind fun d => match d with | .map k e => some (k, e) | _ => none
def isMp (P : Program) (t : TypeId) : Bool := (mpT P t).isSome
/-- a type's zero value -/
def zvA (P : Program) (t : TypeId) : Option AV := ((P.info? t).bind (·.zero)).bind fun z => match z with
  | .agg c => if c.toList.all (·.oneCell') then some (.agg (c.toList.map .v)) else none
  | z => some (.v z)
def findL (k : IntKind) (n : Int) : List AV → Option (Option AV)
  | [] => some none
  | .tup [.v (.int k' m), x] :: r => if k = k' then (if n == m then some (some x) else findL k n r) else none
  | _ => none
def putL (k : IntKind) (n : Int) (v : AV) : List AV → Option (List AV)
  | [] => some [.tup [.v (.int k n), v]]
  | .tup [.v (.int k' m), x] :: r => if k = k' then (if n == m then some (.tup [.v (.int k n), v] :: r) else (putL k n v r).map fun l => .tup [.v (.int k' m), x] :: l) else none
  | _ => none
def bump : AV → Option AV
  | .tup (.v (.int .i64 c) :: bs) => some (.tup (.v (.int .i64 (c + 1)) :: (bs ++ [.v (.int .i64 c)])))
  | _ => none
def updL (k : IntKind) (n : Int) (v : AV) : List AV → Option (List AV)
  | h :: t => (putL k n v t).bind fun t' => if t'.length = t.length then some (h :: t') else (bump h).map fun h' => h' :: t'
  | [] => none
def idxL (k : IntKind) (n : Int) : List AV → Nat → Option (Option Nat)
  | [], _ => some none
  | .tup [.v (.int k' m), _] :: r, i => if k = k' then (if n == m then some (some i) else idxL k n r (i + 1)) else none
  | _, _ => none
def delL (k : IntKind) (n : Int) : List AV → Option (List AV)
  | .tup (c :: bs) :: t => (idxL k n t 0).map fun r => match r with
    | some j => .tup (c :: bs.eraseIdx j) :: t.eraseIdx j
    | none => .tup (c :: bs) :: t
  | _ => none
def lenM (P : Program) (bx : Bx) (x : AV) : Option AV :=
  match x with
  | .mp b => (bx[b]?).map fun l => .v (.int .i64 l.tail.length)
  | .v (.map none) => some (.v (.int .i64 0))
  | _ => none
def okM (ok : Bool) (x : AV) (b : Bool) : AV := if ok then .tup [x, .v (.bool b)] else x
def lookA (P : Program) (bx : Bx) (t : TypeId) (x i : AV) (ok : Bool) : Option AV :=
  match i with
  | .v (.int k n) => (mpT P t).bind fun q => if inA P q.1 = some k then
    (match x with
    | .mp b => (bx[b]?).bind fun l => (findL k n l.tail).bind fun r => match r with
      | some y => some (okM ok y true)
      | none => (zvA P q.2).map fun z => okM ok z false
    | .v (.map none) => (zvA P q.2).map fun z => okM ok z false
    | _ => none) else none
  | _ => none
def rdA (P : Program) (bx : Bx) : Rd → AV → Option AV
  | .ld t, y => loadA P t bx y
  | .lk t i ok, y => lookA P bx t y i ok
def updA (P : Program) (bx : Bx) (t : TypeId) (x i v : AV) : Option Bx :=
  match x, i with
  | .mp b, .v (.int k n) => (mpT P t).bind fun q => if inA P q.1 = some k then (bx[b]?).bind fun l => (updL k n v l).map fun l' => bx.set b l' else none
  | _, _ => none

def clrM (bx : Bx) (x : AV) : Option Bx :=
  match x with
  | .mp b => (bx[b]?).bind fun l => match l with
    | .tup (c :: _) :: _ => some (bx.set b [.tup [c]])
    | _ => none
  | .v (.map none) => some bx
  | _ => none
def delA (P : Program) (bx : Bx) (t : TypeId) (x i : AV) : Option Bx :=
  match i with
  | .v (.int k n) => (mpT P t).bind fun q => if inA P q.1 = some k then
    (match x with
    | .mp b => (bx[b]?).bind fun l => (delL k n l).map fun l' => bx.set b l'
    | .v (.map none) => some bx
    | _ => none) else none
  | _ => none

/-! ## calls -/
abbrev FnA := FuncId → List AV → Bx → Option (AV × Bx)

def expo (bx : Bx) (k : Nat) : AV → AV × Bx
  | .bsl b off m e => (.bsl k 0 m e, [(((bx[b]?).getD []).drop off |>.take (m * e)).map AV.bare])
  | .tup (.bsl b off m e :: r) => (.tup (.bsl k 0 m e :: r.map AV.bare), [(((bx[b]?).getD []).drop off |>.take (m * e)).map AV.bare])
  | .tup (.mp b :: r) => (.tup (.mp k :: r.map AV.bare), [((bx[b]?).getD []).map AV.bare])
  | x => (x.bare, [])

def eqV : Value → Value → Bool
  | .int k n, .int k' n' => decide (k = k') && n == n'
  | .bool a, .bool b => a == b
  | .pointer none, .pointer none => true
  | .slice none a b, .slice none a' b' => a == a' && b == b'
  | .string a, .string b => a.data.toList == b.data.toList
  | _, _ => false
def eqD : AV → AV → Bool
  | .v a, .v b => eqV a b
  | .bp b o, .bp b' o' => b == b' && o == o'
  | .bsl b o n e, .bsl b' o' n' e' => b == b' && o == o' && n == n' && e == e'
  | .mp b, .mp b' => b == b'
  | .gs b n e, .gs b' n' e' => b == b' && n == n' && e == e'
  | .ns, .ns => true
  | .junk, .junk => true
  | _, _ => false
def eqDs : List AV → List AV → Bool
  | [], [] => true
  | x :: l, y :: m => eqD x y && eqDs l m
  | _, _ => false
def eqC : AV → AV → Bool
  | .fn f p c, .fn f' p' c' => f == f' && eqDs p p' && eqDs c c'
  | .tup l, .tup m => eqDs l m
  | x, y => eqD x y
def eqCs : List AV → List AV → Bool
  | [], [] => true
  | x :: l, y :: m => eqC x y && eqCs l m
  | _, _ => false
def eqBx : Bx → Bx → Bool
  | [], [] => true
  | x :: l, y :: m => eqCs x y && eqBx l m
  | _, _ => false

def callA (E : FnA) (md : FuncId → Md) (bx : Bx) (f : FuncId) (args : List AV) : Option (AV × Bx) :=
  match md f with
  | .frozen => (E f (args.map (frz bx true 6)) []).map fun r => (frz r.2 false 6 r.1, bx)
  | .boxed => (E f (args.map (frz bx true 6)) []).map fun r => ((expo r.2 bx.length r.1).1, bx ++ (expo r.2 bx.length r.1).2)
  | .objT => (E f args bx).bind fun r => if bx.length ≤ r.2.length then some (r.1.keep (· < bx.length), (r.2.take bx.length).map fun l => l.map (AV.keep (· < bx.length))) else none
  | .objK => E f args bx
  | .objR => (E f args bx).bind fun r => if eqBx (r.2.take bx.length) bx = true then some (r.1.keep (· < bx.length), bx) else if bx.length ≤ r.2.length ∧ eqBx ((r.2.take bx.length).map fun l => l.map (AV.keep (· < bx.length))) bx = true then some (r.1.keep (· < bx.length), bx) else none
  | .fresh => (E f (args.map (frz bx true 6)) []).bind fun r => match r.1 with
    | .bsl b off m e => some (.bsl bx.length 0 m e, bx ++ [(((r.2[b]?).getD []).drop off |>.take (m * e)).map AV.bare])
    | _ => none

/-- a function that is a value is called as one that leaves the boxes as they are -/
def mdV (md : FuncId → Md) (f : FuncId) : Md := if md f = .frozen then .frozen else .objR
def mdG (md : FuncId → Md) : Operand → FuncId → Md
  | .tmp _ => mdV md
  | _ => md

/-- Are a function's slice literals read as cells that nobody changes? -/
def litM (md : FuncId → Md) : Bool := md 1000000 == .objK
/-- Are a function's boxed values read as cells that nobody changes? -/
def ipM (md : FuncId → Md) : Bool := md 1000002 == .objK
/-- It hangs on no box. -/
def AV.still : AV → Bool
  | .v _ => true
  | .sl _ _ _ => true
  | .ip _ _ => true
  | _ => false
def boxI (x : AV) : Option AV := if x.okc = true ∧ x.cells.all AV.still = true then some (.ip x.cells true) else none
/-- Are a function's slice literals of plain cells boxes that only grow? -/
def growM (md : FuncId → Md) : Bool := md 1000001 == .objK
def toG (bx : Bx) (r : AV × Bx) : AV × Bx :=
  match r.1 with
  | .bsl _ _ n e => if e = 64 ∧ (((r.2.drop bx.length).head?).getD []).all isV = true then (.gs bx.length n e, r.2) else r
  | _ => r
def buildSliceG (P : Program) (bx : Bx) (t : TypeId) (n : Nat) (parts : List (Nat × AV)) : Option (AV × Bx) := (buildSliceA P bx t n parts).map (toG bx)
def buildSliceM (md : FuncId → Md) (P : Program) (bx : Bx) (t : TypeId) (n : Nat) (parts : List (Nat × AV)) : Option (AV × Bx) := if growM md then buildSliceG P bx t n parts else buildSliceA P bx t n parts
def litA (P : Program) (t : TypeId) (n : Nat) (parts : List (Nat × AV)) : Option AV :=
  (buildSliceA P [] t n parts).bind fun r => match r.2 with
    | [cs] => if cs.all isV then (if n = 0 then some .ns else some (.sl n cs false)) else none
    | _ => none

/-! ## operations -/
/-- the program; how a function (the first) calls another one (the second); which of a function's slots are kept behind a region -/
structure Cx where
  P : Program
  md : FuncId → FuncId → Md
  kp : FuncId → Option (List Nat)

/-- a nil slice is a box that lies nowhere yet -/
def moveA (env : Env) (bx : Bx) : Operand → Option (AV × Env × Bx)
  | .const (.slice none 0 0) => some (.bsl bx.length 0 0 0, env, bx ++ [[]])
  | x => some (opnd env x, env, bx)

def evOp (P : Program) (md : FuncId → Md) (E : FnA) (n0 : Nat) (env : Env) (bx : Bx) : Op → Option (AV × Env × Bx)
  | .move x => moveA env bx x
  | .assign x => moveA env bx x
  | .pick c a b => match opnd env c with
    | .v (.bool t) => match opnd env a, opnd env b with
      | .v (.bool p), .v (.bool q) => some (.v (.bool (if t then p else q)), env, bx)
      | x, y => if t then some (x, env, bx) else some (y, env, bx)
    | _ => none
  | .alloc t => (zcA P t).map fun z => (.bp bx.length 0, env, bx ++ [z])
  | .box _ x => if ipM md then (boxI (opnd env x)).map fun r => (r, env, bx) else if !(opnd env x).okc then none else some (.bp bx.length 0, env, bx ++ [(opnd env x).cells])
  | .build t parts => (buildA P t (parts.toList.map fun p => (p.1, opnd env p.2))).map fun r => (r, env, bx)
  | .buildSlice t n parts => if litM md then (litA P t n (parts.toList.map fun p => (p.1, opnd env p.2))).map fun r => (r, env, bx) else (buildSliceM md P bx t n (parts.toList.map fun p => (p.1, opnd env p.2))).map fun r => (r.1, env, r.2)
  | .load t a => (loadA P t bx (opnd env a)).map fun r => (r, env, bx)
  | .store t a x => (storeA P t bx (opnd env a) (opnd env x)).map fun b => (.v undef, env, b)
  | .nilCheck x => match opnd env x with
    | .bp b o => some (.bp b o, env, bx)
    | .ip l f => some (.ip l f, env, bx)
    | .fn f a b => some (.fn f a b, env, bx)
    | _ => none
  | .binOp op t x y _ => (binA P op t (opnd env x) (opnd env y)).map fun r => (r, env, bx)
  | .unOp op _ x => (unA op (opnd env x)).map fun r => (r, env, bx)
  | .convert s d x => (convA P bx s d (opnd env x)).map fun r => (r.1, env, r.2)
  | .sliceToArrayPointer t x => (arrPtrA P t (opnd env x)).map fun r => (r, env, bx)
  | .makeFunc (.func f) pre caps => some (.fn f (pre.toList.map (opnd env)) (caps.toList.map (opnd env)), env, bx)
  | .makeSlice t l c => (makeSliceA P bx t (opnd env l) (opnd env c)).map fun r => (r.1, env, r.2)
  | .slice t x lo hi mx => (sliceA P bx t (opnd env x) (lo.map (opnd env)) (hi.map (opnd env)) (mx.map (opnd env))).map fun r => (r, env, bx)
  | .fieldAddr t x i => (fieldAddrA P t (opnd env x) i).map fun r => (r, env, bx)
  | .field t x i => (fieldA P t (opnd env x) i).map fun r => (r, env, bx)
  | .indexAddr t x i => (indexAddrA P t (opnd env x) (opnd env i)).map fun r => (r, env, bx)
  | .index t x i => (indexA P t (opnd env x) (opnd env i)).map fun r => (r, env, bx)
  | .extract x i => match opnd env x with
    | .tup l => (l[i]?).map fun r => (r, env, bx)
    | _ => none
  | .call c => match c.callee with
    | .value g => match opnd env g with
      | .fn f pre caps => (callA E (mdG md g) bx f (pre ++ c.args.toList.map (opnd env) ++ caps)).map fun r => (r.1, env, r.2)
      | _ => none
    | .builtin .len => match c.args.toList, c.argTypes.toList with
      | [x], t :: _ => (if isMp P t then lenM P bx (opnd env x) else lenA P t (opnd env x)).map fun r => (r, env, bx)
      | _, _ => none
    | .builtin .min => match c.args.toList with
      | x :: r => (minL false (opnd env x) (r.map (opnd env))).map fun r => (r, env, bx)
      | _ => none
    | .builtin .max => match c.args.toList with
      | x :: r => (minL true (opnd env x) (r.map (opnd env))).map fun r => (r, env, bx)
      | _ => none
    | .builtin .append => match c.args.toList, c.argTypes.toList with
      | [x, y], [t, u] => if isSl P u || isStr P u then appendA P n0 env bx t (opnd env x) (opnd env y) else none
      | _, _ => none
    | .builtin .copy => match c.args.toList, c.argTypes.toList with
      | [x, y], t :: _ => (copyA P bx t (opnd env x) (opnd env y)).map fun r => (r.1, env, r.2)
      | _, _ => none
    | .builtin .clear => match c.args.toList, c.argTypes.toList with
      | [x], t :: _ => (if isMp P t then clrM bx (opnd env x) else clearA P bx t (opnd env x)).map fun b => (.v (.tuple #[]), env, b)
      | _, _ => none
    | .builtin .delete => match c.args.toList, c.argTypes.toList with
      | [x, y], t :: _ => (delA P bx t (opnd env x) (opnd env y)).map fun b => (.v (.tuple #[]), env, b)
      | _, _ => none
    | _ => none
  | .makeMap _ none => some (.mp bx.length, env, bx ++ [[.tup [.v (.int .i64 0)]]])
  | .lookup t x i ok => (lookA P bx t (opnd env x) (opnd env i) ok).map fun r => (r, env, bx)
  | .mapUpdate t m k x => (updA P bx t (opnd env m) (opnd env k) (opnd env x)).map fun b => (.v undef, env, b)
  | _ => none

def put (N : Nat) (d : Option Nat) (v : AV) (env : Env) : Option Env :=
  match d with
  | none => some env
  | some d => if d < N then some ((d, v) :: env) else none

/-- Is an operation carried out? -/
def wantA (ops : Array Oper) (env : Env) (o : Oper) : Option Bool :=
  match o.guard with
  | none => some true
  | some (j, want) => match (ops[j]?).bind (·.dst) with
    | none => some false
    | some d => match get env d with
      | .v (.bool b) => some (b == want)
      | .v (.tuple _) => some false
      | _ => none

/-- the operations that are asked for, in the text's order -/
def evOps (P : Program) (md : FuncId → Md) (E : FnA) (N n0 : Nat) (sel : Op → Bool) (ops : Array Oper) : List Oper → Env → Bx → Option (Env × Bx)
  | [], env, bx => some (env, bx)
  | o :: rest, env, bx =>
    if sel o.op then
      match wantA ops env o with
      | some true => (evOp P md E n0 env bx o.op).bind fun r => (put N o.dst r.1 r.2.1).bind fun env' => evOps P md E N n0 sel ops rest env' r.2.2
      | some false => (put N o.dst (.v undef) env).bind fun env' => evOps P md E N n0 sel ops rest env' bx
      | none => none
    else evOps P md E N n0 sel ops rest env bx

/-! ## regions that draw their order -/
/-- new memory out of constants alone: made ahead of the rest -/
def hoist : Op → Bool
  | .alloc _ => true
  | .makeSlice _ (.const _) (.const _) => true
  | _ => false

/-- what an operation does to memory: 0: nothing; 1: it reads; 2: it writes; 3: it is not looked at here -/
def mcl (P : Program) (md : FuncId → Md) : Op → Nat
  | .move (.const (.slice none 0 0)) => 3
  | .assign (.const (.slice none 0 0)) => 3
  | .move _ | .assign _ | .pick .. | .build .. | .nilCheck _ | .binOp .. | .unOp .. | .sliceToArrayPointer .. | .makeFunc .. | .fieldAddr .. | .field ..
  | .indexAddr .. | .index .. | .extract .. => 0
  | .load .. | .slice .. | .lookup .. => 1
  | .mapUpdate .. => 2
  | .convert _ t _ => if isSl P t then 3 else 1
  | .store .. => 2
  | .buildSlice .. => if litM md then 0 else 2
  | .box .. => if ipM md then 3 else 2
  | .call c => match c.callee with
    | .value (.func f) => match md f with
      | .frozen => 1
      | .objT => 2
      | .objK => 2
      | .objR => 1
      | .fresh => 2
      | _ => 3
    | .value (.tmp _) => 1
    | .builtin .len => if c.argTypes.toList.any (isMp P) then 3 else 0
    | .builtin .min | .builtin .max => 0
    | .builtin .copy | .builtin .clear | .builtin .append => 2
    | _ => 3
  | _ => 3

/-- the slots that an operation looks at, or writes -/
def touches (ops : Array Oper) (o : Oper) (d : Nat) : Bool := (o.looksAt ops).contains d || o.dst == some d

/-- Not 'append'. -/
def noApp : Op → Bool
  | .call { callee := .builtin .append, .. } => false
  | _ => true

def isLd (md : FuncId → Md) : Op → Bool
  | .load .. => true
  | .lookup .. => true
  | .call c => match c.callee with
    | .value (.func f) => md f == .frozen
    | _ => false
  | .convert .. => true
  | _ => false
/-- what makes a new box behind all others, and changes no other one -/
def isMk (md : FuncId → Md) : Op → Bool
  | .buildSlice .. => !litM md
  | .box .. => !ipM md
  | .call c => match c.callee with
    | .value (.func f) => md f == .fresh
    | _ => false
  | _ => false
/-- a call that may change all boxes -/
def isOb (md : FuncId → Md) : Op → Bool
  | .call c => match c.callee with
    | .value (.func f) => md f == .objT || md f == .objK
    | _ => false
  | _ => false
def isSt (md : FuncId → Md) : Op → Bool
  | .store .. => true
  | o => isMk md o || !noApp o || isOb md o

def drawOk (P : Program) (md : FuncId → Md) (ops : Array Oper) : Bool :=
  P.follows .mixedOrders && Region.lexB .any ops &&
  (List.range ops.size).all fun j =>
    (if hoist (ops.getD j default).op then (ops.getD j default).guard.isNone else mcl P md (ops.getD j default).op != 3) &&
    (List.range j).all fun i =>
      -- what writes stands behind, or ahead of, all that touches memory; a 'load' and a 'store' may stand in any order: where they lie is looked at
      (!(mcl P md (ops.getD j default).op == 2 && (hoist (ops.getD i default).op || 1 ≤ mcl P md (ops.getD i default).op)) || (((Region.before ops).getD j 0).testBit i) || (isSt md (ops.getD j default).op && isLd md (ops.getD i default).op) || (isMk md (ops.getD j default).op && hoist (ops.getD i default).op)) &&
      (!(mcl P md (ops.getD i default).op == 2 && 1 ≤ mcl P md (ops.getD j default).op) || (((Region.before ops).getD j 0).testBit i) || (isSt md (ops.getD i default).op && isLd md (ops.getD j default).op) || (isMk md (ops.getD i default).op && hoist (ops.getD j default).op)) &&
      (!(mcl P md (ops.getD i default).op == 2 && hoist (ops.getD j default).op) || isMk md (ops.getD i default).op) &&
      -- what is made ahead of the rest is seen by nobody earlier, and stays
      (!(hoist (ops.getD j default).op) || (match (ops.getD j default).dst with | some d => !touches ops (ops.getD i default) d | none => true)) &&
      (!(hoist (ops.getD i default).op) || (match (ops.getD i default).dst with | some d => (ops.getD j default).dst != some d | none => true))

/-- the box that 'append' grows -/
def apB : AV → Option Nat
  | .bsl b _ _ _ => some b
  | _ => none
def keepO : Option Nat → Nat → Bool
  | none, _ => true
  | some b, c => c != b
def apAd (bx : Bx) : AV → AV
  | .bsl b _ _ _ => .bp b 0
  | .gs b _ _ => .bp b 0
  | _ => .bp bx.length 0
/-- the slice that an 'append' grows -/
def apO (env : Env) : Op → Option AV
  | .call c => match c.callee with
    | .builtin .append => match c.args.toList with
      | x :: _ => some (opnd env x)
      | _ => none
    | _ => none
  | _ => none
/-- a call with plain arguments looks at no box -/
def callAd (l : List AV) : AV := if l.all isV then .v undef else .junk

/-- where a 'store' (true), a 'load' (false) looks -/
def adr (md : FuncId → Md) (env : Env) (bx : Bx) : Op → Option (Bool × AV)
  | .store _ a _ => some (true, opnd env a)
  | .load _ a => some (false, opnd env a)
  | .lookup _ a _ _ => some (false, opnd env a)
  | .convert _ _ x => some (false, callAd [opnd env x])
  | .buildSlice .. => if litM md then none else some (true, .bp bx.length 0)
  | .box .. => some (true, .bp bx.length 0)
  | .call c => match c.callee with
    | .value (.func f) => if md f = .objT ∨ md f = .objK then some (true, .ns) else if md f = .fresh then some (true, .bp bx.length 0) else some (false, callAd (c.args.toList.map (opnd env)))
    | .builtin .append => match c.args.toList with
      | x :: _ => some (true, apAd bx (opnd env x))
      | _ => some (true, .junk)
    | _ => none
  | _ => none

mutual
/-- It does not hang on a box, and is known. -/
def AV.free (b : Nat) : AV → Bool
  | .agg l => AV.freeL b l
  | .tup l => AV.freeL b l
  | .bp c _ => c != b
  | .bsl c _ _ _ => c != b
  | .fn _ pre caps => AV.freeL b pre && AV.freeL b caps
  | .mp c => c != b
  | .gs c _ _ => c != b
  | .gp c _ _ => c != b
  | .v _ => true
  | .sl _ _ _ => true
  | .ip _ _ => true
  | .ns => true
  | .junk => false
def AV.freeL (b : Nat) : List AV → Bool
  | [] => true
  | x :: r => x.free b && AV.freeL b r
end
def freeA (x v : AV) : Bool :=
  match apB x with
  | some b => v.free b
  | none => true
/-- what an operation grows, and all that it looks at and yields -/
def entF (ops : Array Oper) (env : Env) (o : Oper) (r : AV) : Option AV × List AV := (apO env o.op, (o.looksAt ops).map (get env) ++ [r])
def okF (ops : Array Oper) (j : Nat) (x : Option AV × List AV) (p : Nat × Option AV × List AV) : Bool :=
  match x.1, p.2.1 with
  | none, none => true
  | some a, none => ((Region.before ops).getD j 0).testBit p.1 || p.2.2.all (freeA a)
  | none, some b => ((Region.before ops).getD j 0).testBit p.1 || x.2.all (freeA b)
  | some a, some b => ((Region.before ops).getD j 0).testBit p.1 || (p.2.2.all (freeA a) && x.2.all (freeA b))

/-- a store's address, a load's: do they lie apart? -/
def apartV : AV → AV → Bool
  | _, .junk => false
  | .v _, _ => true
  | _, .v _ => true
  | .bp b _, .bp b' _ => b != b'
  | .bp b _, .mp b' => b != b'
  | .bp b _, .gp b' _ _ => b != b'
  | .bp _ _, .ip _ _ => true
  | .ns, .ip _ _ => true
  | _, _ => false

def okD (ops : Array Oper) (j : Nat) (a : Option (Bool × AV)) (p : Nat × Bool × AV) : Bool :=
  match a with
  | none => true
  | some (st, x) => p.2.1 == st || ((Region.before ops).getD j 0).testBit p.1 || (if st then apartV x p.2.2 else apartV p.2.2 x)

def guardB (b : Bool) : Option Unit := if b then some () else none

def accN (j : Nat) (a : Option (Bool × AV)) (acc : List (Nat × Bool × AV)) : List (Nat × Bool × AV) :=
  match a with
  | some (s, x) => acc ++ [(j, s, x)]
  | none => acc

/-- the operations that are not made ahead of the rest, in the text's order, each looked at: does it lie apart from those with which it has no order? -/
def evOpsD (P : Program) (md : FuncId → Md) (E : FnA) (N n0 : Nat) (ops : Array Oper) : List Oper → Nat → Env → Bx → List (Nat × Bool × AV) → List (Nat × Option AV × List AV) → Option (Env × Bx)
  | [], _, env, bx, _, _ => some (env, bx)
  | o :: rest, j, env, bx, acc, acf =>
    if hoist o.op then evOpsD P md E N n0 ops rest (j + 1) env bx acc acf else
    (guardB (acc.all (okD ops j (adr md env bx o.op)))).bind fun _ =>
    match wantA ops env o with
    | some true => (evOp P md E n0 env bx o.op).bind fun r => (put N o.dst r.1 r.2.1).bind fun env' =>
      (guardB (acf.all (okF ops j (entF ops env o r.1)))).bind fun _ => evOpsD P md E N n0 ops rest (j + 1) env' r.2.2 (accN j (adr md env bx o.op) acc) (acf ++ [(j, entF ops env o r.1)])
    | some false => (put N o.dst (.v undef) env).bind fun env' =>
      (guardB (acf.all (okF ops j (entF ops env o (.v undef))))).bind fun _ => evOpsD P md E N n0 ops rest (j + 1) env' bx (accN j (adr md env bx o.op) acc) (acf ++ [(j, entF ops env o (.v undef))])
    | none => none

def drawsOk (P : Program) (md : FuncId → Md) : Code → Bool
  | .seq a b => drawsOk P md a && drawsOk P md b
  | .cond _ a b => drawsOk P md a && drawsOk P md b
  | .block _ c => drawsOk P md c
  | .loop c => drawsOk P md c
  | .region _ ops draw => !draw || drawOk P md ops
  | _ => true

/-- a region -/
def evReg (P : Program) (md : FuncId → Md) (E : FnA) (N n0 : Nat) (ops : Array Oper) (draw : Bool) (env : Env) (bx : Bx) : Option (Env × Bx) :=
  if draw then (evOps P md E N n0 hoist ops ops.toList env bx).bind fun r => evOpsD P md E N n0 ops ops.toList 0 r.1 r.2 [] []
  else evOps P md E N n0 (fun _ => true) ops ops.toList env bx

def prune (k : Option (List Nat)) (env : Env) : Env :=
  match k with
  | none => env
  | some l => env.filter fun p => l.contains p.1

def seqA (r : Option (Ex × S)) (k : S → Option (Ex × S)) : Option (Ex × S) :=
  match r with
  | some (.normal, s) => k s
  | x => x

def blockA (id : Nat) (r : Option (Ex × S)) : Option (Ex × S) :=
  match r with
  | some (.exit i, s) => if i = id then some (.normal, s) else some (.exit i, s)
  | x => x

/-- At a round's head: the slots that were known when the loop began, the boxes that there were. -/
def head (s0 s : S) : S :=
  { env := s0.env.map fun p => (p.1, (get s.env p.1).keep (· < s0.bx.length)), bx := (s.bx.take s0.bx.length).map fun l => l.map (AV.keep (· < s0.bx.length)) }

/-- The same, and all boxes. -/
def headK (s0 s : S) : S :=
  { env := s0.env.map fun p => (p.1, get s.env p.1), bx := s.bx }
/-- Does a function keep the boxes that its loops' rounds make? -/
def kpB : Option (List Nat) → Bool
  | some (1000000 :: _) => true
  | _ => false
def hdA (k : Option (List Nat)) (s0 : S) : S → S := if kpB k then headK s0 else head s0

def iter (h : S → S) (f : S → Option (Ex × S)) : Nat → S → Option (Ex × S)
  | 0, _ => none
  | n + 1, s => seqA (f s) fun s' => iter h f n (h s')

def condA (c : AV) (a b : Option (Ex × S)) : Option (Ex × S) :=
  match c with
  | .v (.bool t) => if t then a else b
  | _ => none

def evCode (P : Program) (md : FuncId → Md) (E : FnA) (N : Nat) (k : Option (List Nat)) (n n0 : Nat) : Code → S → Option (Ex × S)
  | .skip, s => some (.normal, s)
  | .label _, s => some (.normal, s)
  | .seq a b, s => seqA (evCode P md E N k n n0 a s) (evCode P md E N k n n0 b)
  | .cond c a b, s => condA (opnd s.env c) (evCode P md E N k n n0 a s) (evCode P md E N k n n0 b s)
  | .block id c, s => blockA id (evCode P md E N k n n0 c s)
  | .loop c, s => iter (hdA k s) (evCode P md E N k n n0 c) n s
  | .exit id, s => some (.exit id, s)
  | .ret, s => some (.ret, s)
  | .region _ ops draw, s => (evReg P md E N n0 ops draw s.env s.bx).map fun r => (.normal, ⟨prune k r.1, r.2⟩)
  | _, _ => none

def resL (P : Program) (env : Env) (bx : Bx) : List ResultVar → Option (List AV)
  | [] => some []
  | .tmp t :: r => (resL P env bx r).map fun l => get env t :: l
  | .cell a t :: r => (loadA P t bx (get env a)).bind fun x => (resL P env bx r).map fun l => x :: l

def resA (l : List AV) : AV := match l with | [x] => x | l => .tup l

def evFn (cx : Cx) (ext : FnA) : Nat → FnA
  | 0, _, _, _ => none
  | n + 1, f, args, bx =>
    match ext f args bx with
    | some r => some r
    | none =>
      match cx.P.funcs[f]? with
      | none => none
      | some fn => match fn.body with
        | none => none
        | some c => if fn.ntmps < args.length ∨ drawsOk cx.P (cx.md f) c = false ∨ fn.name = "runtime.NumGoroutine" then none else
          match evCode cx.P (cx.md f) (evFn cx ext n) fn.ntmps (cx.kp f) n bx.length c ⟨args.zipIdx.map fun p => (p.2, p.1), bx⟩ with
          | some (.normal, s) => (resL cx.P s.env s.bx fn.results.toList).map fun l => (resA l, s.bx)
          | some (.ret, s) => (resL cx.P s.env s.bx fn.results.toList).map fun l => (resA l, s.bx)
          | _ => none

end Go.Sy
