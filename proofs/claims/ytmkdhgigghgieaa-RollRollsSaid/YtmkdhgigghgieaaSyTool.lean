/-
  The reader in use: equations for calls and functions.
-/
import Derived.Test.YtmkdhgigghgieaaSyCode
namespace Go.Sy

/-- a call that reads alone -/
def cf (E : FnA) (f : FuncId) (args : List AV) : Option AV := (E f args []).map fun r => frz r.2 false 6 r.1

theorem callA_frozen {E : FnA} {md : FuncId → Md} {f : FuncId} (h : md f = .frozen) (bx : Bx) (args : List AV) : callA E md bx f args = (cf E f (args.map (frz bx true 6))).map fun r => (r, bx) := by
  unfold callA cf
  rw [h]
  simp only [Option.map_map]
  rfl

def fin (P : Program) (rs : List ResultVar) : Option (Ex × S) → Option (AV × Bx)
  | some (.normal, s) => (resL P s.env s.bx rs).map fun l => (resA l, s.bx)
  | some (.ret, s) => (resL P s.env s.bx rs).map fun l => (resA l, s.bx)
  | _ => none

theorem evFn_eq {cx : Cx} {ext : FnA} {n : Nat} {f : FuncId} {args : List AV} {bx : Bx} {fn : Func} {c : Code} (he : ext f args bx = none) (hf : cx.P.funcs[f]? = some fn) (hb : fn.body = some c) (hn : args.length ≤ fn.ntmps)
    (hd : drawsOk cx.P (cx.md f) c = true) (hname : fn.name ≠ "runtime.NumGoroutine") :
    evFn cx ext (n + 1) f args bx = fin cx.P fn.results.toList (evCode cx.P (cx.md f) (evFn cx ext n) fn.ntmps (cx.kp f) n bx.length c ⟨args.zipIdx.map fun p => (p.2, p.1), bx⟩) := by
  simp only [evFn, he, hf, hb]
  rw [if_neg (by simp [hd, hname]; omega)]
  generalize evCode cx.P (cx.md f) (evFn cx ext n) fn.ntmps (cx.kp f) n bx.length c ⟨args.zipIdx.map fun p => (p.2, p.1), bx⟩ = r
  rcases r with _ | ⟨e, s⟩
  · rfl
  · cases e <;> rfl

end Go.Sy
