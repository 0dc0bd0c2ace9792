/-
  Layer 04: disk.Crash, by hand.
-/
import Derived.Test.YtijmfjpcjceejaaPfDsk2
namespace Go.Sy.Pre
open Go.Proofs

theorem hE0 : ∀ f args bx r bx', evFn cx0 ext0 1000 f args bx = some (r, bx') → Sound Try.prog f args bx r bx' := fun f args bx r bx' h => evFn_sound (cx := cx0) ext0_ok 1000 f args bx r bx' h
theorem c_crAll : Try.f12.body = some (.seq c_crP0 (.seq (.seq c_crR1 c_crBlk) c_crP9)) := by kernel_rfl
theorem c_crBlkE : c_crBlk = .block 0 (.loop c_crB) := by kernel_rfl
theorem c_crR1E : c_crR1 = .region 1 (opsC c_crR1) false := by kernel_rfl
theorem o_crR1 : ∃ o1 o2 o3 o4 o5 : Oper, (opsC c_crR1).toList = [o1, o2, o3, o4, o5] ∧ (o1.op = .move (.tmp 0) ∧ o1.dst = some 9 ∧ o1.guard = none) ∧ (o2.op = .nilCheck (.tmp 9) ∧ o2.dst = some 10 ∧ o2.guard = none) ∧
    (o3.op = .fieldAddr 63 (.tmp 10) 2 ∧ o3.dst = some 11 ∧ o3.guard = none) ∧ (o4.op = .load 61 (.tmp 11) ∧ o4.dst = some 12 ∧ o4.guard = none) ∧ (o5.op = .range 61 (.tmp 12) ∧ o5.dst = some 13 ∧ o5.guard = none) :=
  ⟨_, _, _, _, _, rfl, ⟨rfl, rfl, rfl⟩, ⟨rfl, rfl, rfl⟩, ⟨rfl, rfl, rfl⟩, ⟨rfl, rfl, rfl⟩, ⟨rfl, rfl, rfl⟩⟩
theorem rg_cr : ∃ o1 o2 oe o3 o4 o5 o6 : Oper, RgCode c_crB 13 14 15 16 0 1 c_crR4 (opsC c_crR2) (opsC c_crR3) o1 o2 oe [o3, o4, o5, o6] ∧
    (o3.op = .extract (.tmp 16) 0 ∧ o3.dst = some 17 ∧ o3.guard = none) ∧ (o4.op = .extract (.tmp 16) 1 ∧ o4.dst = some 18 ∧ o4.guard = none) ∧ (o5.op = .assign (.tmp 17) ∧ o5.dst = some 4 ∧ o5.guard = none) ∧ (o6.op = .assign (.tmp 18) ∧ o6.dst = some 5 ∧ o6.guard = none) :=
  ⟨_, _, _, _, _, _, _, ⟨⟨2, 3, by kernel_rfl⟩, rfl, ⟨rfl, rfl, rfl⟩, ⟨rfl, rfl, rfl⟩, rfl, ⟨rfl, rfl, rfl⟩⟩, ⟨rfl, rfl, rfl⟩, ⟨rfl, rfl, rfl⟩, ⟨rfl, rfl, rfl⟩, ⟨rfl, rfl, rfl⟩⟩
theorem mp_wt : mpT Try.prog 61 = some (3, 35) := by kernel_rfl
end Go.Sy.Pre
