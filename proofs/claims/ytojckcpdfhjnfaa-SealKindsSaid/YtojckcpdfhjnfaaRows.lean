/-
  No cell of these rows narrows 'for every input' (looked for: loops, veiled, ifaces, maps, wideKeys, modest, calm, conditions, laid).
  DERIVED. THE GIVEN ROWS OF THIS SEAT. 5 by the template 'for every input the law returns true; each argument reads behind the call as it read before'; 0 by the template 'total and deterministic' (their statements: YtojckcpdfhjnfaaTotals.lean).
  GIVEN WITH THE SEED: the statements are not yours to turn. If you find one false, say at which input.
  Laid BY PROGRAM, IN A SANDBOX (cutbox-rows.mjs): the forced cells as the released guide's own fill.sh prints them over the translation ee79274b01ab875a… (all of the seat's roots in one cut). By AI agents, Wed Nov 11 2026. No macro, syntax, notation, axiom, sorry.
-/
import Derived.Test.YtojckcpdfhjnfaaChecked
import GoSem.Claim
import GoSem.ClaimJoined
import GoSem.ClaimMapViews
import Derived.JoinedTies
import Derived.KernelRfl
namespace Go.Proofs.Ytojckcpdfhjnfaa
/- THE CELL 'sum', in the pinned program and in every row, IS THE sha256 OF THE DUMP (.gsa) THAT YtojckcpdfhjnfaaProg.lean LOADS. Nothing in Lean hashes anything: it is a label: what it is worth is what the hold of that sum in a sandbox is worth. -/
noncomputable def Try.pinned : Pinned := { name := "ytojckcpdfhjnfaa", sum := "ee79274b01ab875adc8bc797d00d79e1ff52eb209931600c948dee07b7963bad", checked := Try.checked }
namespace Rows
def none {H : Type} : Left H := { results := [], args := [] }

/-- 'scupperlaw07.SealPuts': WHATEVER THE INPUT: true; the input reads as it did. -/
def sealPutsSpec : ChangeSpec := { name := "sealPuts", fn := fun _ => fun
  | [d1, d2, d3, d4] => { results := [.lit (.bool true)], args := [d1, d2, d3, d4] }
  | _ => none }
def sealPutsRow : OpenClaim := { program := "ytojckcpdfhjnfaa", sum := "ee79274b01ab875adc8bc797d00d79e1ff52eb209931600c948dee07b7963bad", func := "scupper/scupperlaw07.SealPuts", spec := "sealPuts", apart := false }
def SealPutsSaid : Prop := sealPutsRow.holds Try.pinned (OpenSpec.ofChange sealPutsSpec)

/-- ITS FALSE NEIGHBOUR: 'it returns false'. Refute it at one input. -/
def sealPutsWrong : ChangeSpec := { name := "sealPuts", fn := fun _ => fun
  | [d1, d2, d3, d4] => { results := [.lit (.bool false)], args := [d1, d2, d3, d4] }
  | _ => none }
def SealPutsWrongFalsely : Prop := sealPutsRow.holds Try.pinned (OpenSpec.ofChange sealPutsWrong)

/-- 'scupperlaw07.SealBack': WHATEVER THE INPUT: true; the input reads as it did. -/
def sealBackSpec : ChangeSpec := { name := "sealBack", fn := fun _ => fun
  | [d1, d2, d3] => { results := [.lit (.bool true)], args := [d1, d2, d3] }
  | _ => none }
def sealBackRow : OpenClaim := { program := "ytojckcpdfhjnfaa", sum := "ee79274b01ab875adc8bc797d00d79e1ff52eb209931600c948dee07b7963bad", func := "scupper/scupperlaw07.SealBack", spec := "sealBack", apart := false }
def SealBackSaid : Prop := sealBackRow.holds Try.pinned (OpenSpec.ofChange sealBackSpec)

/-- ITS FALSE NEIGHBOUR: 'it returns false'. Refute it at one input. -/
def sealBackWrong : ChangeSpec := { name := "sealBack", fn := fun _ => fun
  | [d1, d2, d3] => { results := [.lit (.bool false)], args := [d1, d2, d3] }
  | _ => none }
def SealBackWrongFalsely : Prop := sealBackRow.holds Try.pinned (OpenSpec.ofChange sealBackWrong)

/-- 'scupperlaw07.SealOne': WHATEVER THE INPUT: true; the input reads as it did. -/
def sealOneSpec : ChangeSpec := { name := "sealOne", fn := fun _ => fun
  | [d1, d2, d3, d4, d5] => { results := [.lit (.bool true)], args := [d1, d2, d3, d4, d5] }
  | _ => none }
def sealOneRow : OpenClaim := { program := "ytojckcpdfhjnfaa", sum := "ee79274b01ab875adc8bc797d00d79e1ff52eb209931600c948dee07b7963bad", func := "scupper/scupperlaw07.SealOne", spec := "sealOne", apart := false }
def SealOneSaid : Prop := sealOneRow.holds Try.pinned (OpenSpec.ofChange sealOneSpec)

/-- ITS FALSE NEIGHBOUR: 'it returns false'. Refute it at one input. -/
def sealOneWrong : ChangeSpec := { name := "sealOne", fn := fun _ => fun
  | [d1, d2, d3, d4, d5] => { results := [.lit (.bool false)], args := [d1, d2, d3, d4, d5] }
  | _ => none }
def SealOneWrongFalsely : Prop := sealOneRow.holds Try.pinned (OpenSpec.ofChange sealOneWrong)

/-- 'scupperlaw07.SealKinds': WHATEVER THE INPUT: true; the input reads as it did. -/
def sealKindsSpec : ChangeSpec := { name := "sealKinds", fn := fun _ => fun
  | [d] => { results := [.lit (.bool true)], args := [d] }
  | _ => none }
def sealKindsRow : OpenClaim := { program := "ytojckcpdfhjnfaa", sum := "ee79274b01ab875adc8bc797d00d79e1ff52eb209931600c948dee07b7963bad", func := "scupper/scupperlaw07.SealKinds", spec := "sealKinds", apart := false }
def SealKindsSaid : Prop := sealKindsRow.holds Try.pinned (OpenSpec.ofChange sealKindsSpec)

/-- ITS FALSE NEIGHBOUR: 'it returns false'. Refute it at one input. -/
def sealKindsWrong : ChangeSpec := { name := "sealKinds", fn := fun _ => fun
  | [d] => { results := [.lit (.bool false)], args := [d] }
  | _ => none }
def SealKindsWrongFalsely : Prop := sealKindsRow.holds Try.pinned (OpenSpec.ofChange sealKindsWrong)

/-- 'scupperlaw07.SealNexts': WHATEVER THE INPUT: true; the input reads as it did. -/
def sealNextsSpec : ChangeSpec := { name := "sealNexts", fn := fun _ => fun
  | [d1, d2, d3, d4] => { results := [.lit (.bool true)], args := [d1, d2, d3, d4] }
  | _ => none }
def sealNextsRow : OpenClaim := { program := "ytojckcpdfhjnfaa", sum := "ee79274b01ab875adc8bc797d00d79e1ff52eb209931600c948dee07b7963bad", func := "scupper/scupperlaw07.SealNexts", spec := "sealNexts", apart := false }
def SealNextsSaid : Prop := sealNextsRow.holds Try.pinned (OpenSpec.ofChange sealNextsSpec)

/-- ITS FALSE NEIGHBOUR: 'it returns false'. Refute it at one input. -/
def sealNextsWrong : ChangeSpec := { name := "sealNexts", fn := fun _ => fun
  | [d1, d2, d3, d4] => { results := [.lit (.bool false)], args := [d1, d2, d3, d4] }
  | _ => none }
def SealNextsWrongFalsely : Prop := sealNextsRow.holds Try.pinned (OpenSpec.ofChange sealNextsWrong)

/- THE SECOND FORM. 'bulk': how many values and letters a reading holds, each counted each time it is reached (what is shared counts as often as it is met; a slice's spare places count too). A statement '..UptoSaid' is the law's where the arguments, and the package variables that the reading takes, are together of bulk at most 1048576: NARROWER than '..Said'. Prove '..Said' where nothing that the law and all that it calls make is longer than what came in: it says more and counts as full. Else prove '..UptoSaid'. A law counts once. -/
mutual
def uptoBulk {H : Type} : DataW H → Nat
  | .lit (.string bytes) => bytes.length + 1
  | .lit _ => 1
  | .nil => 1
  | .ptr d => uptoBulk d + 1
  | .slice elems spare => uptoBulkAll elems + uptoBulkAll spare + 1
  | .agg parts => uptoBulkAll parts + 1
  | .iface _ d => uptoBulk d + 1
  | .map entries => uptoBulkEntries entries + 1
  | .held _ => 1
def uptoBulkAll {H : Type} : List (DataW H) → Nat
  | [] => 0
  | d :: r => uptoBulk d + uptoBulkAll r
def uptoBulkEntries {H : Type} : List (Lit × DataW H) → Nat
  | [] => 0
  | x :: r => uptoBulkEntry x + uptoBulkEntries r
def uptoBulkEntry {H : Type} : Lit × DataW H → Nat
  | (.string bytes, d) => bytes.length + uptoBulk d + 1
  | (_, d) => uptoBulk d + 1
 end
def uptoSmall : (H : Type) → List (DataW H) → Bool := fun _ ds => decide (uptoBulkAll ds ≤ 1048576)
def OpenSpec.upto (s : _root_.Go.ChangeSpec) : _root_.Go.OpenSpec := { _root_.Go.OpenSpec.ofChange s with cond := some uptoSmall }

/-- 'scupperlaw07.SealPuts', WHERE WHAT IT READS IS OF BULK AT MOST 1048576: true; the input reads as it did. -/
def sealPutsUptoRow : OpenClaim := { program := "ytojckcpdfhjnfaa", sum := "ee79274b01ab875adc8bc797d00d79e1ff52eb209931600c948dee07b7963bad", func := "scupper/scupperlaw07.SealPuts", spec := "sealPuts", apart := false, narrowed := true }
def SealPutsUptoSaid : Prop := sealPutsUptoRow.holds Try.pinned (OpenSpec.upto sealPutsSpec)

/-- 'scupperlaw07.SealBack', WHERE WHAT IT READS IS OF BULK AT MOST 1048576: true; the input reads as it did. -/
def sealBackUptoRow : OpenClaim := { program := "ytojckcpdfhjnfaa", sum := "ee79274b01ab875adc8bc797d00d79e1ff52eb209931600c948dee07b7963bad", func := "scupper/scupperlaw07.SealBack", spec := "sealBack", apart := false, narrowed := true }
def SealBackUptoSaid : Prop := sealBackUptoRow.holds Try.pinned (OpenSpec.upto sealBackSpec)

/-- 'scupperlaw07.SealOne', WHERE WHAT IT READS IS OF BULK AT MOST 1048576: true; the input reads as it did. -/
def sealOneUptoRow : OpenClaim := { program := "ytojckcpdfhjnfaa", sum := "ee79274b01ab875adc8bc797d00d79e1ff52eb209931600c948dee07b7963bad", func := "scupper/scupperlaw07.SealOne", spec := "sealOne", apart := false, narrowed := true }
def SealOneUptoSaid : Prop := sealOneUptoRow.holds Try.pinned (OpenSpec.upto sealOneSpec)

/-- 'scupperlaw07.SealKinds', WHERE WHAT IT READS IS OF BULK AT MOST 1048576: true; the input reads as it did. -/
def sealKindsUptoRow : OpenClaim := { program := "ytojckcpdfhjnfaa", sum := "ee79274b01ab875adc8bc797d00d79e1ff52eb209931600c948dee07b7963bad", func := "scupper/scupperlaw07.SealKinds", spec := "sealKinds", apart := false, narrowed := true }
def SealKindsUptoSaid : Prop := sealKindsUptoRow.holds Try.pinned (OpenSpec.upto sealKindsSpec)

/-- 'scupperlaw07.SealNexts', WHERE WHAT IT READS IS OF BULK AT MOST 1048576: true; the input reads as it did. -/
def sealNextsUptoRow : OpenClaim := { program := "ytojckcpdfhjnfaa", sum := "ee79274b01ab875adc8bc797d00d79e1ff52eb209931600c948dee07b7963bad", func := "scupper/scupperlaw07.SealNexts", spec := "sealNexts", apart := false, narrowed := true }
def SealNextsUptoSaid : Prop := sealNextsUptoRow.holds Try.pinned (OpenSpec.upto sealNextsSpec)

end Rows
end Go.Proofs.Ytojckcpdfhjnfaa
