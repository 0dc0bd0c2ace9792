/-
  The reader once more, in a shape that reduces well when values are not known: one operation, one 'bind'.
-/
import Derived.Test.YtmkdhgigghgieaaSyTool
namespace Go.Sy

/-- a value; memory stays -/
def pv (bx : Bx) (x : Option AV) : Option (AV × Bx) := x.map fun r => (r, bx)

def pickA (c a b : AV) : Option AV :=
  match c with
  | .v (.bool t) => match a, b with
    | .v (.bool p), .v (.bool q) => some (.v (.bool (if t then p else q)))
    | x, y => if t then some x else some y
  | _ => none

def nilA : AV → Option AV
  | .bp b o => some (.bp b o)
  | .ip l f => some (.ip l f)
  | .fn f a b => some (.fn f a b)
  | _ => none

def tupA (x : AV) (i : Nat) : Option AV :=
  match x with
  | .tup l => l[i]?
  | _ => none

def boxA (bx : Bx) (x : AV) : Option (AV × Bx) := if !x.okc then none else some (.bp bx.length 0, bx ++ [x.cells])

def movV (env : Env) (bx : Bx) : Operand → Option (AV × Bx)
  | .const (.slice none 0 0) => some (.bsl bx.length 0 0 0, bx ++ [[]])
  | x => some (opnd env x, bx)

def callV (E : FnA) (md : FuncId → Md) (bx : Bx) (args : List AV) : AV → Option (AV × Bx)
  | .fn f pre caps => callA E md bx f (pre ++ args ++ caps)
  | _ => none

def allocA (P : Program) (bx : Bx) (t : TypeId) : Option (AV × Bx) := (zcA P t).map fun z => (.bp bx.length 0, bx ++ [z])
def stA (P : Program) (t : TypeId) (bx : Bx) (a x : AV) : Option (AV × Bx) := (storeA P t bx a x).map fun b => (.v undef, b)
def clrA (P : Program) (t : TypeId) (bx : Bx) (x : AV) : Option (AV × Bx) := (clearA P bx t x).map fun b => (.v (.tuple #[]), b)
def upV (P : Program) (t : TypeId) (bx : Bx) (m k x : AV) : Option (AV × Bx) := (updA P bx t m k x).map fun b => (.v undef, b)
def crV (bx : Bx) (m : AV) : Option (AV × Bx) := (clrM bx m).map fun b => (.v (.tuple #[]), b)
def dlV (P : Program) (t : TypeId) (bx : Bx) (m k : AV) : Option (AV × Bx) := (delA P bx t m k).map fun b => (.v (.tuple #[]), b)
def md0 : FuncId → Md := fun _ => .frozen

def evV (P : Program) (md : FuncId → Md) (E : FnA) (env : Env) (bx : Bx) : Op → Option (AV × Bx)
  | .move x => movV env bx x
  | .assign x => movV env bx x
  | .pick c a b => pv bx (pickA (opnd env c) (opnd env a) (opnd env b))
  | .alloc t => (zcA P t).map fun z => (.bp bx.length 0, bx ++ [z])
  | .box _ x => if ipM md then pv bx (boxI (opnd env x)) else boxA bx (opnd env x)
  | .build t parts => pv bx (buildA P t (parts.toList.map fun p => (p.1, opnd env p.2)))
  | .buildSlice t n parts => if litM md then pv bx (litA P t n (parts.toList.map fun p => (p.1, opnd env p.2))) else buildSliceM md P bx t n (parts.toList.map fun p => (p.1, opnd env p.2))
  | .load t a => pv bx (loadA P t bx (opnd env a))
  | .store t a x => (storeA P t bx (opnd env a) (opnd env x)).map fun b => (.v undef, b)
  | .nilCheck x => pv bx (nilA (opnd env x))
  | .binOp op t x y _ => pv bx (binA P op t (opnd env x) (opnd env y))
  | .unOp op _ x => pv bx (unA op (opnd env x))
  | .convert s d x => convA P bx s d (opnd env x)
  | .sliceToArrayPointer t x => pv bx (arrPtrA P t (opnd env x))
  | .makeFunc (.func f) pre caps => some (.fn f (pre.toList.map (opnd env)) (caps.toList.map (opnd env)), bx)
  | .makeSlice t l c => makeSliceA P bx t (opnd env l) (opnd env c)
  | .slice t x lo hi mx => pv bx (sliceA P bx t (opnd env x) (lo.map (opnd env)) (hi.map (opnd env)) (mx.map (opnd env)))
  | .fieldAddr t x i => pv bx (fieldAddrA P t (opnd env x) i)
  | .field t x i => pv bx (fieldA P t (opnd env x) i)
  | .indexAddr t x i => pv bx (indexAddrA P t (opnd env x) (opnd env i))
  | .index t x i => pv bx (indexA P t (opnd env x) (opnd env i))
  | .extract x i => pv bx (tupA (opnd env x) i)
  | .call c => match c.callee with
    | .value g => callV E (mdG md g) bx (c.args.toList.map (opnd env)) (opnd env g)
    | .builtin .len => match c.args.toList, c.argTypes.toList with
      | [x], t :: _ => pv bx (if isMp P t then lenM P bx (opnd env x) else lenA P t (opnd env x))
      | _, _ => none
    | .builtin .min => match c.args.toList with
      | x :: r => pv bx (minL false (opnd env x) (r.map (opnd env)))
      | _ => none
    | .builtin .max => match c.args.toList with
      | x :: r => pv bx (minL true (opnd env x) (r.map (opnd env)))
      | _ => none
    | .builtin .copy => match c.args.toList, c.argTypes.toList with
      | [x, y], t :: _ => copyA P bx t (opnd env x) (opnd env y)
      | _, _ => none
    | .builtin .clear => match c.args.toList, c.argTypes.toList with
      | [x], t :: _ => (if isMp P t then clrM bx (opnd env x) else clearA P bx t (opnd env x)).map fun b => (.v (.tuple #[]), b)
      | _, _ => none
    | .builtin .delete => match c.args.toList, c.argTypes.toList with
      | [x, y], t :: _ => (delA P bx t (opnd env x) (opnd env y)).map fun b => (.v (.tuple #[]), b)
      | _, _ => none
    | _ => none
  | .makeMap _ none => some (.mp bx.length, bx ++ [[.tup [.v (.int .i64 0)]]])
  | .lookup t x i ok => pv bx (lookA P bx t (opnd env x) (opnd env i) ok)
  | .mapUpdate t m k x => (updA P bx t (opnd env m) (opnd env k) (opnd env x)).map fun b => (.v undef, b)
  | _ => none

theorem mov_eq (env : Env) (bx : Bx) (x : Operand) : moveA env bx x = (movV env bx x).map fun r => (r.1, env, r.2) := by
  unfold moveA
  split
  · rfl
  · rename_i hx
    unfold movV
    split
    · exact (hx rfl).elim
    · rfl

theorem evV_eq (P : Program) (md : FuncId → Md) (E : FnA) (n0 : Nat) (env : Env) (bx : Bx) (op : Op) (h : noApp op = true) : evOp P md E n0 env bx op = (evV P md E env bx op).map fun r => (r.1, env, r.2) := by
  cases op
  case move x => exact mov_eq env bx x
  case assign x => exact mov_eq env bx x
  case pick c a b =>
    simp only [evOp, evV, pv, pickA]
    cases opnd env c <;> try rfl
    rename_i x
    cases x <;> try rfl
    rename_i t
    simp only
    generalize opnd env a = va
    generalize opnd env b = vb
    cases va
    case v x =>
      cases x <;> cases vb <;> try (cases t <;> rfl)
      rename_i y
      cases y <;> cases t <;> rfl
    all_goals (cases t <;> rfl)
  case box t x =>
    simp only [evOp, evV, pv, boxA]
    cases ipM md
    · simp only [Bool.false_eq_true, if_false]
      split <;> rfl
    · simp only [if_true, Option.map_map]
      rfl
  case nilCheck x =>
    simp only [evOp, evV, pv, nilA]
    cases opnd env x <;> rfl
  case extract x i =>
    simp only [evOp, evV, pv, tupA]
    cases opnd env x <;> try rfl
    simp only [Option.map_map]
    rfl
  case makeFunc fn pre caps => cases fn <;> rfl
  case makeMap t rs => cases rs <;> rfl
  case buildSlice t n parts =>
    simp only [evOp, evV, pv]
    cases litM md
    · rfl
    · simp only [if_true, Option.map_map]
      rfl
  case call c =>
    obtain ⟨callee, args, argTypes⟩ := c
    cases callee with
    | value g =>
      simp only [evOp, evV, callV]
      cases opnd env g <;> rfl
    | invoke g m => rfl
    | builtin b =>
      cases b
      case append => simp [noApp] at h
      all_goals try rfl
      all_goals
        simp only [evOp, evV, pv]
        generalize args.toList = la
        generalize argTypes.toList = lt
        rcases la with _ | ⟨x, _ | ⟨y, _ | ⟨z, la⟩⟩⟩ <;> rcases lt with _ | ⟨t, lt⟩ <;> first | rfl | (simp only [Option.map_map]; rfl)
  all_goals first
    | rfl
    | (simp only [evOp, evV, pv, Option.map_map]; rfl)

/-- is it carried out? -/
def gsel (want : Bool) (bx : Bx) (x : Option (AV × Bx)) : AV → Option (AV × Bx)
  | .v (.bool b) => if b == want then x else some (.v undef, bx)
  | .v (.tuple _) => some (.v undef, bx)
  | _ => none

def gVal (ops : Array Oper) (env : Env) (bx : Bx) (g : Option (Nat × Bool)) (x : Option (AV × Bx)) : Option (AV × Bx) :=
  match g with
  | none => x
  | some (j, want) => match (ops[j]?).bind (·.dst) with
    | none => some (.v undef, bx)
    | some d => gsel want bx x (get env d)

/-- 'append', with what becomes of the slots -/
def appA (P : Program) (n0 : Nat) (bx : Bx) (t : TypeId) (x y : AV) : Option (AV × (AV → AV) × Bx) :=
  if isSl P t then
    (elA P t).bind fun e => (szA P e).bind fun sz => (byA P e).bind fun by_ => (zcA P e).bind fun z => (readA bx y).bind fun (m, ys) =>
    if ys.length = m * sz ∧ 0 < sz ∧ z.length = sz ∧ 0 < by_ ∧ m * by_ ≤ 2 ^ 47 ∧ m < 2 ^ 48 then
      (match x with
      | .ns => if m = 0 then some (.ns, fun x => x, bx) else if sz = 64 ∧ ys.all isV = true then some (.gs bx.length m sz, fun x => x, bx ++ [ys]) else some (.bsl bx.length 0 m sz, fun x => x, bx ++ [ys])
      | .v (.slice none 0 0) => if m = 0 then some (.ns, fun x => x, bx) else if sz = 64 ∧ ys.all isV = true then some (.gs bx.length m sz, fun x => x, bx ++ [ys]) else some (.bsl bx.length 0 m sz, fun x => x, bx ++ [ys])
      | .gs b n e' => (bx[b]?).bind fun l => if l.length = n * sz ∧ e' = sz ∧ (n + m) * by_ ≤ 2 ^ 47 ∧ ys.all isV = true then some (.gs b (n + m) sz, fun x => x, bx.set b (l ++ ys)) else none
      | .bsl b off n e' => (bx[b]?).bind fun l => if off = 0 ∧ n0 ≤ b ∧ l.length = n * sz ∧ (e' = sz ∨ (e' = 0 ∧ n = 0)) ∧ (n + m) * by_ ≤ 2 ^ 47 then
          some (.bsl b 0 (n + m) (if n + m = 0 then e' else sz), AV.keep (· != b), (bx.map fun l => l.map (AV.keep (· != b))).set b ((l ++ ys).map (AV.keep (· != b)))) else none
      | _ => none)
    else none
  else none

def mapE (f : AV → AV) : Env → Env
  | [] => []
  | (k, x) :: r => (k, f x) :: mapE f r
theorem mapE_id (env : Env) : mapE (fun x => x) env = env := by
  induction env with
  | nil => rfl
  | cons p r ih => obtain ⟨k, x⟩ := p; simp only [mapE, ih]
theorem mapE_eq (f : AV → AV) (env : Env) : mapE f env = env.map fun p => (p.1, f p.2) := by
  induction env with
  | nil => rfl
  | cons p r ih => obtain ⟨k, x⟩ := p; simp only [mapE, ih, List.map_cons]

theorem appA_eq (P : Program) (n0 : Nat) (env : Env) (bx : Bx) (t : TypeId) (x y : AV) : appendA P n0 env bx t x y = (appA P n0 bx t x y).map fun r => (r.1, mapE r.2.1 env, r.2.2) := by
  unfold appendA appA
  split
  case isFalse => rfl
  cases elA P t with
  | none => rfl
  | some e =>
  simp only [Option.bind_some]
  cases szA P e with
  | none => rfl
  | some sz =>
  simp only [Option.bind_some]
  cases byA P e with
  | none => rfl
  | some by_ =>
  simp only [Option.bind_some]
  cases zcA P e with
  | none => rfl
  | some z =>
  simp only [Option.bind_some]
  cases readA bx y with
  | none => rfl
  | some r =>
  obtain ⟨m, ys⟩ := r
  simp only [Option.bind_some]
  split
  case isFalse => rfl
  split
  · split
    · simp only [Option.map_some, mapE_id]
    · split <;> simp only [Option.map_some, mapE_id]
  · split
    · simp only [Option.map_some, mapE_id]
    · split <;> simp only [Option.map_some, mapE_id]
  · rename_i b n e'
    simp only
    cases bx[b]? with
    | none => rfl
    | some l =>
      simp only [Option.bind_some]
      split <;> simp only [Option.map_some, Option.map_none, mapE_id]
  · rename_i b off n e'
    simp only
    cases bx[b]? with
    | none => rfl
    | some l =>
      simp only [Option.bind_some]
      split
      · simp only [Option.map_some, mapE_eq]
      · rfl
  · rename_i h1 h2 h3 h4
    split
    · exact (h1 rfl).elim
    · exact (h2 rfl).elim
    · exact (h3 _ _ _ rfl).elim
    · exact (h4 _ _ _ _ rfl).elim
    · rfl

def evA (P : Program) (n0 : Nat) (env : Env) (bx : Bx) : Op → Option (AV × (AV → AV) × Bx)
  | .call c => match c.callee with
    | .builtin .append => match c.args.toList, c.argTypes.toList with
      | [x, y], [t, u] => if isSl P u || isStr P u then appA P n0 bx t (opnd env x) (opnd env y) else none
      | _, _ => none
    | _ => none
  | _ => none

theorem evA_eq (P : Program) (md : FuncId → Md) (E : FnA) (n0 : Nat) (env : Env) (bx : Bx) (op : Op) (h : noApp op = false) : evOp P md E n0 env bx op = (evA P n0 env bx op).map fun r => (r.1, mapE r.2.1 env, r.2.2) := by
  cases op
  case call c =>
    obtain ⟨callee, args, argTypes⟩ := c
    cases callee with
    | builtin b =>
      cases b
      case append =>
        simp only [evOp, evA]
        generalize args.toList = la
        generalize argTypes.toList = lt
        rcases la with _ | ⟨x, _ | ⟨y, _ | ⟨z, la⟩⟩⟩ <;> rcases lt with _ | ⟨t, _ | ⟨u, _ | ⟨v, lt⟩⟩⟩ <;> first | rfl | skip
        simp only
        split
        · exact appA_eq P n0 env bx t _ _
        · rfl
      all_goals simp [noApp] at h
    | _ => simp [noApp] at h
  all_goals simp [noApp] at h

def evOps2 (P : Program) (md : FuncId → Md) (E : FnA) (N n0 : Nat) (ops : Array Oper) : List Oper → Env → Bx → Option (Env × Bx)
  | [], env, bx => some (env, bx)
  | o :: rest, env, bx =>
    if noApp o.op then
      (gVal ops env bx o.guard (evV P md E env bx o.op)).bind fun r => (put N o.dst r.1 env).bind fun env' => evOps2 P md E N n0 ops rest env' r.2
    else
      match wantA ops env o with
      | some true => (evA P n0 env bx o.op).bind fun r => (put N o.dst r.1 (mapE r.2.1 env)).bind fun env' => evOps2 P md E N n0 ops rest env' r.2.2
      | some false => (put N o.dst (.v undef) env).bind fun env' => evOps2 P md E N n0 ops rest env' bx
      | none => none

theorem evOps2_eq (P : Program) (md : FuncId → Md) (E : FnA) (N n0 : Nat) (sel : Op → Bool) (ops : Array Oper) : ∀ (l : List Oper) (env : Env) (bx : Bx), evOps P md E N n0 sel ops l env bx = evOps2 P md E N n0 ops (l.filter fun o => sel o.op) env bx
  | [], env, bx => rfl
  | o :: l, env, bx => by
    rw [List.filter_cons]
    simp only [evOps]
    split
    · simp only [evOps2]
      by_cases h : noApp o.op = true
      · rw [if_pos h]
        unfold wantA gVal
        cases hg : o.guard with
        | none =>
          simp only [evV_eq P md E n0 env bx o.op h]
          cases evV P md E env bx o.op with
          | none => rfl
          | some r => simp only [Option.map_some, Option.bind_some, evOps2_eq P md E N n0 sel ops l]
        | some g =>
          obtain ⟨j, want⟩ := g
          simp only
          cases (ops[j]?).bind (·.dst) with
          | none => simp only [Option.bind_some, evOps2_eq P md E N n0 sel ops l]
          | some d =>
            simp only
            unfold gsel
            cases get env d <;> try rfl
            rename_i x
            cases x <;> try rfl
            · rename_i b
              simp only
              cases hb : b == want
              · simp only [Bool.false_eq_true, if_false, Option.bind_some, evOps2_eq P md E N n0 sel ops l]
              · simp only [if_true, evV_eq P md E n0 env bx o.op h]
                cases evV P md E env bx o.op with
                | none => rfl
                | some r => simp only [Option.map_some, Option.bind_some, evOps2_eq P md E N n0 sel ops l]
            · simp only [Option.bind_some, evOps2_eq P md E N n0 sel ops l]
      · rw [if_neg h]
        simp only [evOps2_eq P md E N n0 sel ops l]
        generalize wantA ops env o = wa
        rcases wa with _ | _ | _ <;> try rfl
        simp only [evA_eq P md E n0 env bx o.op (by simpa using h)]
        cases evA P n0 env bx o.op with
        | none => rfl
        | some r => rfl
    · exact evOps2_eq P md E N n0 sel ops l env bx

def evOpsK {α : Type} (P : Program) (md : FuncId → Md) (E : FnA) (N n0 : Nat) (ops : Array Oper) : List Oper → Env → Bx → (Env → Bx → Option α) → Option α
  | [], env, bx, K => K env bx
  | o :: rest, env, bx, K =>
    if noApp o.op then
      (gVal ops env bx o.guard (evV P md E env bx o.op)).bind fun r => (put N o.dst r.1 env).bind fun env' => evOpsK P md E N n0 ops rest env' r.2 K
    else
      match wantA ops env o with
      | some true => (evA P n0 env bx o.op).bind fun r => (put N o.dst r.1 (mapE r.2.1 env)).bind fun env' => evOpsK P md E N n0 ops rest env' r.2.2 K
      | some false => (put N o.dst (.v undef) env).bind fun env' => evOpsK P md E N n0 ops rest env' bx K
      | none => none

theorem evOpsK_eq {α : Type} (P : Program) (md : FuncId → Md) (E : FnA) (N n0 : Nat) (ops : Array Oper) (K : Env → Bx → Option α) : ∀ (l : List Oper) (env : Env) (bx : Bx),
    ((evOps2 P md E N n0 ops l env bx).bind fun r => K r.1 r.2) = evOpsK P md E N n0 ops l env bx K
  | [], env, bx => rfl
  | o :: l, env, bx => by
    simp only [evOps2, evOpsK]
    by_cases h : noApp o.op = true
    · rw [if_pos h, if_pos h]
      simp only [Option.bind_assoc, evOpsK_eq P md E N n0 ops K l]
    · rw [if_neg h, if_neg h]
      generalize wantA ops env o = wa
      rcases wa with _ | _ | _
      · rfl
      · simp only [Option.bind_assoc, evOpsK_eq P md E N n0 ops K l]
      · simp only [Option.bind_assoc, evOpsK_eq P md E N n0 ops K l]

/-- the pairs of a store's address and a load's of which nothing but their place tells that their order is free -/
def chk (md : FuncId → Md) (ops : Array Oper) (j : Nat) (env : Env) (bx : Bx) (op : Op) (acc : List (Nat × Bool × AV)) : List (AV × AV) :=
  match adr md env bx op with
  | none => []
  | some (st, x) => (acc.filter fun p => !(p.2.1 == st || ((Region.before ops).getD j 0).testBit p.1)).map fun p => if st then (x, p.2.2) else (p.2.2, x)

def chkA {α : Type} (l : List (AV × AV)) (r : Option α) : Option α :=
  match l with
  | [] => r
  | p :: l => (guardB ((p :: l).all fun p => apartV p.1 p.2)).bind fun _ => r

theorem chk_eq {α : Type} {md : FuncId → Md} {ops : Array Oper} {j : Nat} {env : Env} {bx : Bx} {op : Op} {acc : List (Nat × Bool × AV)} (r : Option α) : ((guardB (acc.all (okD ops j (adr md env bx op)))).bind fun _ => r) = chkA (chk md ops j env bx op acc) r := by
  have h : acc.all (okD ops j (adr md env bx op)) = (chk md ops j env bx op acc).all fun p => apartV p.1 p.2 := by
    unfold chk
    cases adr md env bx op with
    | none => simp [okD]
    | some q =>
      obtain ⟨st, x⟩ := q
      simp only
      induction acc with
      | nil => rfl
      | cons p acc ih =>
        rw [List.all_cons, ih, List.filter_cons]
        simp only [okD]
        cases h1 : (p.2.1 == st || ((Region.before ops).getD j 0).testBit p.1)
        · simp only [Bool.false_or, Bool.not_false, if_true, List.map_cons, List.all_cons]
          cases st <;> rfl
        · simp only [Bool.true_or, Bool.true_and, Bool.not_true, Bool.false_eq_true, if_false]
  rw [h]
  cases chk md ops j env bx op acc <;> rfl

/-- the pairs of an 'append' and what it must leave alone -/
def chkF (ops : Array Oper) (j : Nat) (x : Option AV × List AV) (acf : List (Nat × Option AV × List AV)) : List (AV × AV) :=
  acf.flatMap fun p => match x.1, p.2.1 with
    | none, none => []
    | some a, none => if ((Region.before ops).getD j 0).testBit p.1 then [] else p.2.2.map fun v => (a, v)
    | none, some b => if ((Region.before ops).getD j 0).testBit p.1 then [] else x.2.map fun v => (b, v)
    | some a, some b => if ((Region.before ops).getD j 0).testBit p.1 then [] else (p.2.2.map fun v => (a, v)) ++ x.2.map fun v => (b, v)

def chkB {α : Type} (l : List (AV × AV)) (r : Option α) : Option α :=
  match l with
  | [] => r
  | p :: l => (guardB ((p :: l).all fun p => freeA p.1 p.2)).bind fun _ => r

theorem chkF_eq {α : Type} {ops : Array Oper} {j : Nat} {x : Option AV × List AV} {acf : List (Nat × Option AV × List AV)} (r : Option α) : ((guardB (acf.all (okF ops j x))).bind fun _ => r) = chkB (chkF ops j x acf) r := by
  have h : acf.all (okF ops j x) = (chkF ops j x acf).all fun p => freeA p.1 p.2 := by
    unfold chkF
    induction acf with
    | nil => rfl
    | cons p acf ih =>
      rw [List.all_cons, ih, List.flatMap_cons, List.all_append]
      congr 1
      obtain ⟨x1, xs⟩ := x
      obtain ⟨p0, p1, ps⟩ := p
      unfold okF
      simp only
      generalize ((Region.before ops).getD j 0).testBit p0 = tb
      cases x1 <;> cases p1 <;> cases tb <;> simp [List.all_map, Function.comp_def]
  rw [h]
  cases chkF ops j x acf <;> rfl

/-- one operation, and what comes behind it -/
theorem step2 {α : Type} (P : Program) (md : FuncId → Md) (E : FnA) (N n0 : Nat) (ops : Array Oper) (env : Env) (bx : Bx) (o : Oper) (F : AV → Env → Bx → Option α) :
    (match wantA ops env o with
    | some true => (evOp P md E n0 env bx o.op).bind fun r => (put N o.dst r.1 r.2.1).bind fun env' => F r.1 env' r.2.2
    | some false => (put N o.dst (.v undef) env).bind fun env' => F (.v undef) env' bx
    | none => none) =
    if noApp o.op then
      (gVal ops env bx o.guard (evV P md E env bx o.op)).bind fun r => (put N o.dst r.1 env).bind fun env' => F r.1 env' r.2
    else
      match wantA ops env o with
      | some true => (evA P n0 env bx o.op).bind fun r => (put N o.dst r.1 (mapE r.2.1 env)).bind fun env' => F r.1 env' r.2.2
      | some false => (put N o.dst (.v undef) env).bind fun env' => F (.v undef) env' bx
      | none => none := by
  by_cases h : noApp o.op = true
  · rw [if_pos h]
    unfold wantA gVal
    cases hg : o.guard with
    | none =>
      simp only [evV_eq P md E n0 env bx o.op h]
      cases evV P md E env bx o.op with
      | none => rfl
      | some r => simp only [Option.map_some, Option.bind_some]
    | some g =>
      obtain ⟨j, want⟩ := g
      simp only
      cases (ops[j]?).bind (·.dst) with
      | none => simp only [Option.bind_some]
      | some d =>
        simp only
        unfold gsel
        cases get env d <;> try rfl
        rename_i x
        cases x <;> try rfl
        rename_i b
        simp only
        cases hb : b == want
        · simp only [Bool.false_eq_true, if_false, Option.bind_some]
        · simp only [if_true, evV_eq P md E n0 env bx o.op h]
          cases evV P md E env bx o.op with
          | none => rfl
          | some r => simp only [Option.map_some, Option.bind_some]
  · rw [if_neg h]
    generalize wantA ops env o = wa
    rcases wa with _ | _ | _ <;> try rfl
    simp only [evA_eq P md E n0 env bx o.op (by simpa using h)]
    cases evA P n0 env bx o.op with
    | none => rfl
    | some r => rfl

/-- a region that draws its order: the operations that are not made ahead of the rest -/
def evOpsKD {α : Type} (P : Program) (md : FuncId → Md) (E : FnA) (N n0 : Nat) (ops : Array Oper) : List Oper → Nat → Env → Bx → List (Nat × Bool × AV) → List (Nat × Option AV × List AV) → (Env → Bx → Option α) → Option α
  | [], _, env, bx, _, _, K => K env bx
  | o :: rest, j, env, bx, acc, acf, K =>
    if hoist o.op then evOpsKD P md E N n0 ops rest (j + 1) env bx acc acf K else
    chkA (chk md ops j env bx o.op acc) (
    if noApp o.op then
      (gVal ops env bx o.guard (evV P md E env bx o.op)).bind fun r => (put N o.dst r.1 env).bind fun env' => chkB (chkF ops j (entF ops env o r.1) acf) (evOpsKD P md E N n0 ops rest (j + 1) env' r.2 (accN j (adr md env bx o.op) acc) (acf ++ [(j, entF ops env o r.1)]) K)
    else
      match wantA ops env o with
      | some true => (evA P n0 env bx o.op).bind fun r => (put N o.dst r.1 (mapE r.2.1 env)).bind fun env' => chkB (chkF ops j (entF ops env o r.1) acf) (evOpsKD P md E N n0 ops rest (j + 1) env' r.2.2 (accN j (adr md env bx o.op) acc) (acf ++ [(j, entF ops env o r.1)]) K)
      | some false => (put N o.dst (.v undef) env).bind fun env' => chkB (chkF ops j (entF ops env o (.v undef)) acf) (evOpsKD P md E N n0 ops rest (j + 1) env' bx (accN j (adr md env bx o.op) acc) (acf ++ [(j, entF ops env o (.v undef))]) K)
      | none => none)

theorem evOpsKD_eq {α : Type} (P : Program) (md : FuncId → Md) (E : FnA) (N n0 : Nat) (ops : Array Oper) (K : Env → Bx → Option α) : ∀ (l : List Oper) (j : Nat) (env : Env) (bx : Bx) (acc : List (Nat × Bool × AV)) (acf : List (Nat × Option AV × List AV)),
    ((evOpsD P md E N n0 ops l j env bx acc acf).bind fun r => K r.1 r.2) = evOpsKD P md E N n0 ops l j env bx acc acf K
  | [], j, env, bx, acc, acf => rfl
  | o :: l, j, env, bx, acc, acf => by
    simp only [evOpsD, evOpsKD]
    split
    · exact evOpsKD_eq P md E N n0 ops K l (j + 1) env bx acc acf
    · rw [Option.bind_assoc, ← chk_eq]
      congr 1
      funext _
      refine Eq.trans ?_ (step2 P md E N n0 ops env bx o fun r env' bx' => chkB (chkF ops j (entF ops env o r) acf) (evOpsKD P md E N n0 ops l (j + 1) env' bx' (accN j (adr md env bx o.op) acc) (acf ++ [(j, entF ops env o r)]) K))
      simp only [← chkF_eq]
      generalize wantA ops env o = wa
      rcases wa with _ | _ | _
      · rfl
      · simp only [Option.bind_assoc, evOpsKD_eq P md E N n0 ops K l]
      · simp only [Option.bind_assoc, evOpsKD_eq P md E N n0 ops K l]

/-- a region, with what comes behind it -/
def evRegK {α : Type} (P : Program) (md : FuncId → Md) (E : FnA) (N n0 : Nat) (ops : Array Oper) (draw : Bool) (env : Env) (bx : Bx) (K : Env → Bx → Option α) : Option α :=
  if draw then evOpsK P md E N n0 ops (ops.toList.filter fun o => hoist o.op) env bx fun env bx => evOpsKD P md E N n0 ops ops.toList 0 env bx [] [] K
  else evOpsK P md E N n0 ops ops.toList env bx K

theorem evRegK_eq {α : Type} (P : Program) (md : FuncId → Md) (E : FnA) (N n0 : Nat) (ops : Array Oper) (draw : Bool) (env : Env) (bx : Bx) (K : Env → Bx → Option α) :
    ((evReg P md E N n0 ops draw env bx).bind fun r => K r.1 r.2) = evRegK P md E N n0 ops draw env bx K := by
  unfold evReg evRegK
  cases draw
  · simp only [Bool.false_eq_true, if_false, evOps2_eq]
    rw [List.filter_eq_self.mpr (by simp)]
    exact evOpsK_eq P md E N n0 ops K _ env bx
  · simp only [if_true, evOps2_eq, Option.bind_assoc, evOpsKD_eq]
    exact evOpsK_eq P md E N n0 ops (fun env bx => evOpsKD P md E N n0 ops ops.toList 0 env bx [] [] K) _ env bx

/-- an end, and what comes behind it -/
def exitA (r : Option (Ex × S)) (K : S → Option (Ex × S)) (X : Nat → S → Option (Ex × S)) : Option (Ex × S) :=
  match r with
  | some (.normal, s) => K s
  | some (.exit i, s) => X i s
  | x => x

/-- code, with what comes behind it; 'X': behind an exit -/
def evK (P : Program) (md : FuncId → Md) (E : FnA) (N : Nat) (k : Option (List Nat)) (n n0 : Nat) : Code → S → (S → Option (Ex × S)) → (Nat → S → Option (Ex × S)) → Option (Ex × S)
  | .skip, s, K, _ => K s
  | .label _, s, K, _ => K s
  | .seq a b, s, K, X => evK P md E N k n n0 a s (fun s => evK P md E N k n n0 b s K X) X
  | .cond c a b, s, K, X => condA (opnd s.env c) (evK P md E N k n n0 a s K X) (evK P md E N k n n0 b s K X)
  | .block id c, s, K, X => evK P md E N k n n0 c s K fun i s => if i = id then K s else X i s
  | .loop c, s, K, X => exitA (iter (hdA k s) (fun s => evK P md E N k n n0 c s (fun s => some (.normal, s)) fun i s => some (.exit i, s)) n s) K X
  | .exit id, s, _, X => X id s
  | .ret, s, _, _ => some (.ret, s)
  | .region _ ops draw, s, K, _ => evRegK P md E N n0 ops draw s.env s.bx fun env bx => K ⟨prune k env, bx⟩
  | _, _, _, _ => none

theorem exitA_some (r : Option (Ex × S)) : exitA r (fun s => some (.normal, s)) (fun i s => some (.exit i, s)) = r := by
  rcases r with _ | ⟨e, s⟩
  · rfl
  · cases e <;> rfl

theorem evK_eq (P : Program) (md : FuncId → Md) (E : FnA) (N : Nat) (k : Option (List Nat)) (n n0 : Nat) : ∀ (c : Code) (s : S) (K : S → Option (Ex × S)) (X : Nat → S → Option (Ex × S)), exitA (evCode P md E N k n n0 c s) K X = evK P md E N k n n0 c s K X := by
  intro c
  induction c with
  | seq a b iha ihb =>
    intro s K X
    simp only [evCode, evK]
    rw [← iha]
    simp only [← ihb]
    rcases evCode P md E N k n n0 a s with _ | ⟨e, s'⟩
    · rfl
    · cases e <;> rfl
  | cond c a b iha ihb =>
    intro s K X
    simp only [evCode, evK, ← iha, ← ihb]
    unfold condA
    split
    · split <;> rfl
    · rfl
  | block id c ih =>
    intro s K X
    simp only [evCode, evK, ← ih]
    rcases evCode P md E N k n n0 c s with _ | ⟨e, s'⟩
    · rfl
    · cases e with
      | normal => rfl
      | ret => rfl
      | exit i =>
        by_cases hi : i = id
        · simp only [blockA, hi, if_true, exitA]
        · simp only [blockA, hi, if_false, exitA]
  | loop c ih =>
    intro s K X
    simp only [evCode, evK, ← ih, exitA_some]
  | region id ops draw =>
    intro s K X
    simp only [evCode, evK, ← evRegK_eq]
    cases evReg P md E N n0 ops draw s.env s.bx <;> rfl
  | _ => intro s K X; rfl

theorem evFn_eq2 {cx : Cx} {ext : FnA} {n : Nat} {f : FuncId} {args : List AV} {bx : Bx} {fn : Func} {c : Code} (he : ext f args bx = none) (hf : cx.P.funcs[f]? = some fn) (hb : fn.body = some c) (hn : args.length ≤ fn.ntmps)
    (hd : drawsOk cx.P (cx.md f) c = true) (hname : fn.name ≠ "runtime.NumGoroutine") :
    evFn cx ext (n + 1) f args bx = fin cx.P fn.results.toList (evK cx.P (cx.md f) (evFn cx ext n) fn.ntmps (cx.kp f) n bx.length c ⟨args.zipIdx.map fun p => (p.2, p.1), bx⟩ (fun s => some (.normal, s)) fun i s => some (.exit i, s)) := by
  rw [evFn_eq he hf hb hn hd hname, ← evK_eq, exitA_some]
end Go.Sy
