/-
  power.Use of a supply that is none, among any boxes.
-/
import Derived.Test.YtijmfjpcjceejaaPfUse
import Derived.Test.YtijmfjpcjceejaaSySnd
namespace Go.Sy
open Go.Proofs

theorem use_nilE : extC 40 [.v (.pointer none)] [] = some (.v (.int .i64 0), [[.v (.pointer none)], [.v (.int .i64 0)]]) := by kernel_rfl
/-- a supply's use: what it answers, and what is left -/
def useE (l u : Int) (g : Bool) : Int × Int × Int × Bool :=
  if g = true ∨ l = 0 then (20, l, u, true) else if 0 < l then (0, IntKind.i64.wrap (l - 1), IntKind.i64.wrap (u + 1), false) else (0, l, IntKind.i64.wrap (u + 1), false)
theorem use_one (l u : Int) (g : Bool) : ∃ t, extC 40 [.bp 0 0] [sup l u g] = some (.v (.int .i64 (useE l u g).1), sup (useE l u g).2.1 (useE l u g).2.2.1 (useE l u g).2.2.2 :: t) := by
  have fn : ∀ {bx : Bx} {y : AV × Bx}, useK [.bp 0 0] bx = some y → extC 40 [.bp 0 0] bx = some y := by
    intro bx y h
    unfold extC
    rw [if_pos rfl]
    exact evDK_eq h
  unfold useE
  cases g with
  | true => exact ⟨_, fn (by rw [if_pos (.inl rfl)]; exact use_gone l u)⟩
  | false =>
    have k := use_here l u
    by_cases h0 : l = 0
    · subst h0
      rw [if_pos (.inr rfl)]
      refine ⟨[[.bp 0 0], [.v (.int .i64 20)]], fn ?_⟩
      rw [k]
      rfl
    · have c1 : (l == 0) = false := by simpa using h0
      rw [c1] at k
      rw [if_neg (by simp [h0])]
      by_cases h1 : 0 < l
      · have c2 : decide (l > 0) = true := decide_eq_true h1
        rw [c2] at k
        rw [if_pos h1]
        refine ⟨[[.bp 0 0], [.v (.int .i64 0)]], fn ?_⟩
        rw [k]
        rfl
      · have c2 : decide (l > 0) = false := decide_eq_false h1
        rw [c2] at k
        rw [if_neg h1]
        refine ⟨[[.bp 0 0], [.v (.int .i64 0)]], fn ?_⟩
        rw [k]
        rfl
noncomputable def extN : FnA := fun f args bx =>
  if f = 40 then (match args with
    | [.v (.pointer none)] => some (.v (.int .i64 0), bx)
    | [.bp q 0] => match bx[q]? with
      | some [.v (.int .i64 l), .v (.int .i64 u), .v (.bool g)] => some (.v (.int .i64 (useE l u g).1), bx.set q (sup (useE l u g).2.1 (useE l u g).2.2.1 (useE l u g).2.2.2))
      | _ => none
    | _ => none)
  else none
theorem extN_ok (f : FuncId) (args : List AV) (bx : Bx) (r : AV) (bx' : Bx) (h : extN f args bx = some (r, bx')) : Sound Try.prog f args bx r bx' := by
  unfold extN at h
  split at h
  · rename_i hf
    subst hf
    split at h
    · simp only [Option.some.injEq, Prod.mk.injEq] at h
      obtain ⟨rfl, rfl⟩ := h
      exact (extC_ok _ _ _ _ _ use_nilE).lift (by simp [isV]) bx
    · split at h
      · rename_i q _ l u g hq
        simp only [Option.some.injEq, Prod.mk.injEq] at h
        obtain ⟨rfl, rfl⟩ := h
        obtain ⟨t, ht⟩ := use_one l u g
        exact (extC_ok _ _ _ _ _ ht).one (by simp) rfl rfl hq
      · simp at h
    · simp at h
  · simp at h
end Go.Sy
