/-
  The reader's small steps as equations, for 'simp only'.
-/
import Derived.Test.YtmkdhgigghgieaaSyLaw
import Derived.Test.YtmkdhgigghgieaaSyFast
namespace Go.Sy
section
variable (P : Program) (bx : Bx) (x : Option (AV × Bx)) (a b : AV) (k : IntKind) (m n : Int) (t : TypeId)

theorem pv_some (r : AV) : pv bx (some r) = some (r, bx) := rfl
theorem gsel_tt : gsel true bx x (.v (.bool true)) = x := rfl
theorem gsel_tf : gsel true bx x (.v (.bool false)) = some (.v undef, bx) := rfl
theorem gsel_ff : gsel false bx x (.v (.bool false)) = x := rfl
theorem gsel_ft : gsel false bx x (.v (.bool true)) = some (.v undef, bx) := rfl
theorem gsel_u (w : Bool) : gsel w bx x (.v undef) = some (.v undef, bx) := rfl
theorem pick_t : pickA (.v (.bool true)) a b = some a := by
  cases a
  case v x =>
    cases x <;> cases b <;> try rfl
    rename_i y
    cases y <;> rfl
  all_goals rfl
theorem pick_f : pickA (.v (.bool false)) a b = some b := by
  cases a
  case v x =>
    cases x <;> cases b <;> try rfl
    rename_i y
    cases y <;> rfl
  all_goals rfl
theorem pick_b (c p q : Bool) : pickA (.v (.bool c)) (.v (.bool p)) (.v (.bool q)) = some (.v (.bool (if c then p else q))) := rfl
theorem cond_t (r s : Option (Ex × S)) : condA (.v (.bool true)) r s = r := rfl
theorem cond_f (r s : Option (Ex × S)) : condA (.v (.bool false)) r s = s := rfl

theorem bin_add : binA P .add t (.v (.int k m)) (.v (.int k n)) = some (.v (.int k (k.wrap (m + n)))) := by simp [binA, binV, intA]
theorem bin_sub : binA P .sub t (.v (.int k m)) (.v (.int k n)) = some (.v (.int k (k.wrap (m - n)))) := by simp [binA, binV, intA]
theorem bin_mul : binA P .mul t (.v (.int k m)) (.v (.int k n)) = some (.v (.int k (k.wrap (m * n)))) := by simp [binA, binV, intA]
theorem bin_quo (h : n ≠ 0) : binA P .quo t (.v (.int k m)) (.v (.int k n)) = some (.v (.int k (k.wrap (m.tdiv n)))) := by simp [binA, binV, intA, h]
theorem bin_rem (h : n ≠ 0) : binA P .rem t (.v (.int k m)) (.v (.int k n)) = some (.v (.int k (m.tmod n))) := by simp [binA, binV, intA, h]
theorem bin_eql : binA P .eql t (.v (.int k m)) (.v (.int k n)) = some (.v (.bool (m == n))) := by simp [binA, binV, intA]
theorem bin_neq : binA P .neq t (.v (.int k m)) (.v (.int k n)) = some (.v (.bool (m != n))) := by simp [binA, binV, intA]
theorem bin_lss : binA P .lss t (.v (.int k m)) (.v (.int k n)) = some (.v (.bool (decide (m < n)))) := by simp [binA, binV, intA]
theorem bin_leq : binA P .leq t (.v (.int k m)) (.v (.int k n)) = some (.v (.bool (decide (m ≤ n)))) := by simp [binA, binV, intA]
theorem bin_gtr : binA P .gtr t (.v (.int k m)) (.v (.int k n)) = some (.v (.bool (decide (n < m)))) := by simp [binA, binV, intA]
theorem bin_geq : binA P .geq t (.v (.int k m)) (.v (.int k n)) = some (.v (.bool (decide (n ≤ m)))) := by simp [binA, binV, intA]

theorem frz_v (lent : Bool) (d : Nat) (y : Value) : frz bx lent (d + 1) (.v y) = .v y := rfl
theorem call_f (E : FnA) (f : FuncId) (args : List AV) : callA E md0 bx f args = (cf E f (args.map (frz bx true 6))).map fun r => (r, bx) := callA_frozen rfl bx args
theorem fin_ret (rs : List ResultVar) (s : S) : fin P rs (some (.ret, s)) = (resL P s.env s.bx rs).map fun l => (resA l, s.bx) := rfl
theorem fin_normal (rs : List ResultVar) (s : S) : fin P rs (some (.normal, s)) = (resL P s.env s.bx rs).map fun l => (resA l, s.bx) := rfl
theorem res_one (env : Env) (s : Nat) : resL P env bx [.tmp s] = some [get env s] := rfl
theorem res_two (env : Env) (s u : Nat) : resL P env bx [.tmp s, .tmp u] = some [get env s, get env u] := rfl
theorem resA_one : resA [a] = a := rfl
theorem get_hit (env : Env) (s : Nat) : get ((s, a) :: env) s = a := by simp [get]
end

/-! ## step by step -/
/-- it ends so -/
def Ends (r : Option (Ex × S)) (Q : Ex → S → Prop) : Prop := ∃ e s, r = some (e, s) ∧ Q e s

theorem ends_bind {α : Type} {a : Option α} {f : α → Option (Ex × S)} {Q : Ex → S → Prop} (v : α) (h : a = some v) (h2 : Ends (f v) Q) : Ends (a.bind f) Q := by subst h; exact h2
theorem ends_some {e : Ex} {s : S} {Q : Ex → S → Prop} (h : Q e s) : Ends (some (e, s)) Q := ⟨e, s, rfl, h⟩
theorem ends_t {c : AV} {r r' : Option (Ex × S)} {Q : Ex → S → Prop} (h : c = .v (.bool true)) (h2 : Ends r Q) : Ends (condA c r r') Q := by subst h; exact h2
theorem ends_f {c : AV} {r r' : Option (Ex × S)} {Q : Ex → S → Prop} (h : c = .v (.bool false)) (h2 : Ends r' Q) : Ends (condA c r r') Q := by subst h; exact h2

/-- how a function ends -/
def RetQ (P : Program) (rs : List ResultVar) (y : AV) (e : Ex) (s : S) : Prop := (e = .ret ∨ e = .normal) ∧ ∃ l, resL P s.env s.bx rs = some l ∧ frz s.bx false 6 (resA l) = y

theorem ends_cf {P : Program} {rs : List ResultVar} {y : AV} {r : Option (Ex × S)} (h : Ends r (RetQ P rs y)) : ((fin P rs r).map fun r => frz r.2 false 6 r.1) = some y := by
  obtain ⟨e, s, rfl, he, l, h1, h2⟩ := h
  rcases he with rfl | rfl <;> simp only [fin, h1, Option.map_some, h2]
end Go.Sy
