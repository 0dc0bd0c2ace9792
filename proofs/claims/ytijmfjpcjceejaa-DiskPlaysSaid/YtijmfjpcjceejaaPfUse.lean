/-
  power.Use, which lays a deferred closure, as the reader takes it.
-/
import Derived.Test.YtijmfjpcjceejaaSyDefer
import Derived.Test.YtijmfjpcjceejaaSyStep
import Derived.Test.YtijmfjpcjceejaaProg
import Derived.KernelRfl
namespace Go.Sy
open Go.Proofs

noncomputable def uR0 : Code := match Try.f40.body with | some (.seq a _) => a | _ => .skip
noncomputable def uA : Code := match Try.f40.body with | some (.seq _ (.seq a _)) => a | _ => .skip
noncomputable def u3 : Code := match Try.f40.body with | some (.seq _ (.seq _ (.seq _ a))) => a | _ => .skip
noncomputable def uo (i : Nat) : Oper := match Try.f40.body with | some (.seq _ (.seq _ (.seq (.region _ ops _) _))) => ops.getD i default | _ => default
noncomputable def uG : Code := Try.f42.body.getD .skip
theorem u_body : Try.f40.body = some (.seq uR0 (.seq uA (.seq (.region 3 #[uo 0, uo 1] false) u3))) := by kernel_rfl
theorem u_clo : Try.f42.body = some uG := by kernel_rfl
noncomputable def extC : FnA := fun f args bx =>
  if f = 40 then evD Try.prog md0 (fun _ _ _ => none) 1 Try.f40 uR0 uA u3 uG 5 42 [2, 1] Try.f42.ntmps args bx else none
theorem extC_ok (f : FuncId) (args : List AV) (bx : Bx) (r : AV) (bx' : Bx) (h : extC f args bx = some (r, bx')) : Sound Try.prog f args bx r bx' := by
  unfold extC at h
  split at h
  · rename_i hf
    subst hf
    exact evD_sound (P := Try.prog) (fun f args bx r bx' h => by simp at h) (o1 := uo 0) (o2 := uo 1) (id := 3) Try.func40 (of_decide_eq_true (by kernel_rfl)) u_body ⟨by kernel_rfl, by kernel_rfl, by kernel_rfl⟩ (of_decide_eq_true (by kernel_rfl)) ⟨by kernel_rfl, by kernel_rfl, by kernel_rfl⟩
      Try.func42 (of_decide_eq_true (by kernel_rfl)) u_clo (by kernel_rfl) (of_decide_eq_true (by kernel_rfl)) (by kernel_rfl) (by kernel_rfl) (by kernel_rfl) (by kernel_rfl) h
  · simp at h

def sup (l u : Int) (g : Bool) : List AV := [.v (.int .i64 l), .v (.int .i64 u), .v (.bool g)]
noncomputable abbrev useK (args : List AV) (bx : Bx) : Option (AV × Bx) := evDK Try.prog md0 (fun _ _ _ => none) Try.f40 uR0 uA u3 uG 5 42 [2, 1] Try.f42.ntmps args bx
theorem use_nil (bx : Bx) : useK [.v (.pointer none)] [] = some (.v (.int .i64 0), [[.v (.pointer none)], [.v (.int .i64 0)]]) := by kernel_rfl
theorem use_gone (l u : Int) : useK [.bp 0 0] [sup l u true] = some (.v (.int .i64 20), [sup l u true, [.bp 0 0], [.v (.int .i64 20)]]) := by kernel_rfl
theorem use_here (l u : Int) : useK [.bp 0 0] [sup l u false] = condO (.v (.bool (l == 0))) (some (.v (.int .i64 20), [sup l u true, [.bp 0 0], [.v (.int .i64 20)]]))
    (condO (.v (.bool (decide (l > 0)))) (some (.v (.int .i64 0), [sup (IntKind.i64.wrap (l - 1)) (IntKind.i64.wrap (u + 1)) false, [.bp 0 0], [.v (.int .i64 0)]])) (some (.v (.int .i64 0), [sup l (IntKind.i64.wrap (u + 1)) false, [.bp 0 0], [.v (.int .i64 0)]]))) := by kernel_rfl
theorem use_gone2 (l u l' u' : Int) (g' : Bool) : useK [.bp 0 0] [sup l u true, sup l' u' g'] = some (.v (.int .i64 20), [sup l u true, sup l' u' g', [.bp 0 0], [.v (.int .i64 20)]]) := by kernel_rfl
theorem use_here2 (l u l' u' : Int) (g' : Bool) : useK [.bp 0 0] [sup l u false, sup l' u' g'] = condO (.v (.bool (l == 0))) (some (.v (.int .i64 20), [sup l u true, sup l' u' g', [.bp 0 0], [.v (.int .i64 20)]]))
    (condO (.v (.bool (decide (l > 0)))) (some (.v (.int .i64 0), [sup (IntKind.i64.wrap (l - 1)) (IntKind.i64.wrap (u + 1)) false, sup l' u' g', [.bp 0 0], [.v (.int .i64 0)]])) (some (.v (.int .i64 0), [sup l (IntKind.i64.wrap (u + 1)) false, sup l' u' g', [.bp 0 0], [.v (.int .i64 0)]]))) := by kernel_rfl
end Go.Sy
