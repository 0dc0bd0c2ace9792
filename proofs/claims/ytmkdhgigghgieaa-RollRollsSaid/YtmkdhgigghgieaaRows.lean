/-
  No cell of these rows narrows 'for every input' (looked for: loops, veiled, ifaces, maps, wideKeys, modest, calm, conditions, laid).
  DERIVED. THE GIVEN ROWS OF THIS SEAT. 4 by the template 'for every input the law returns true; each argument reads behind the call as it read before'; 0 by the template 'total and deterministic' (their statements: YtmkdhgigghgieaaTotals.lean).
  GIVEN WITH THE SEED: the statements are not yours to turn. If you find one false, say at which input.
  Laid BY PROGRAM, IN A SANDBOX (cutbox-rows.mjs): the forced cells as the released guide's own fill.sh prints them over the translation 565478b73bccd342… (all of the seat's roots in one cut). By AI agents, Wed Nov 11 2026. No macro, syntax, notation, axiom, sorry.
-/
import Derived.Test.YtmkdhgigghgieaaChecked
import GoSem.Claim
import GoSem.ClaimJoined
import GoSem.ClaimMapViews
import Derived.JoinedTies
import Derived.KernelRfl
namespace Go.Proofs.Ytmkdhgigghgieaa
/- THE CELL 'sum', in the pinned program and in every row, IS THE sha256 OF THE DUMP (.gsa) THAT YtmkdhgigghgieaaProg.lean LOADS. Nothing in Lean hashes anything: it is a label: what it is worth is what the hold of that sum in a sandbox is worth. -/
noncomputable def Try.pinned : Pinned := { name := "ytmkdhgigghgieaa", sum := "565478b73bccd342d0fa0bf58651c3b559fad03a2cd4c3a1844a384fb2e8111d", checked := Try.checked }
namespace Rows
def none {H : Type} : Left H := { results := [], args := [] }

/-- 'scupperlaw15.RollOn': WHATEVER THE INPUT: true; the input reads as it did. -/
def rollOnSpec : ChangeSpec := { name := "rollOn", fn := fun _ => fun
  | [d1, d2, d3] => { results := [.lit (.bool true)], args := [d1, d2, d3] }
  | _ => none }
def rollOnRow : OpenClaim := { program := "ytmkdhgigghgieaa", sum := "565478b73bccd342d0fa0bf58651c3b559fad03a2cd4c3a1844a384fb2e8111d", func := "scupper/scupperlaw15.RollOn", spec := "rollOn", unfollowed := true, recurses := true, apart := false }
def RollOnSaid : Prop := rollOnRow.holds Try.pinned (OpenSpec.ofChange rollOnSpec)

/-- ITS FALSE NEIGHBOUR: 'it returns false'. Refute it at one input. -/
def rollOnWrong : ChangeSpec := { name := "rollOn", fn := fun _ => fun
  | [d1, d2, d3] => { results := [.lit (.bool false)], args := [d1, d2, d3] }
  | _ => none }
def RollOnWrongFalsely : Prop := rollOnRow.holds Try.pinned (OpenSpec.ofChange rollOnWrong)

/-- 'scupperlaw15.RollTurns': WHATEVER THE INPUT: true; the input reads as it did. -/
def rollTurnsSpec : ChangeSpec := { name := "rollTurns", fn := fun _ => fun
  | [d1, d2, d3] => { results := [.lit (.bool true)], args := [d1, d2, d3] }
  | _ => none }
def rollTurnsRow : OpenClaim := { program := "ytmkdhgigghgieaa", sum := "565478b73bccd342d0fa0bf58651c3b559fad03a2cd4c3a1844a384fb2e8111d", func := "scupper/scupperlaw15.RollTurns", spec := "rollTurns", unfollowed := true, recurses := true, apart := false }
def RollTurnsSaid : Prop := rollTurnsRow.holds Try.pinned (OpenSpec.ofChange rollTurnsSpec)

/-- ITS FALSE NEIGHBOUR: 'it returns false'. Refute it at one input. -/
def rollTurnsWrong : ChangeSpec := { name := "rollTurns", fn := fun _ => fun
  | [d1, d2, d3] => { results := [.lit (.bool false)], args := [d1, d2, d3] }
  | _ => none }
def RollTurnsWrongFalsely : Prop := rollTurnsRow.holds Try.pinned (OpenSpec.ofChange rollTurnsWrong)

/-- 'scupperlaw15.RollRolls': WHATEVER THE INPUT: true; the input reads as it did. -/
def rollRollsSpec : ChangeSpec := { name := "rollRolls", fn := fun _ => fun
  | [d1, d2, d3] => { results := [.lit (.bool true)], args := [d1, d2, d3] }
  | _ => none }
def rollRollsRow : OpenClaim := { program := "ytmkdhgigghgieaa", sum := "565478b73bccd342d0fa0bf58651c3b559fad03a2cd4c3a1844a384fb2e8111d", func := "scupper/scupperlaw15.RollRolls", spec := "rollRolls", unfollowed := true, recurses := true, apart := false }
def RollRollsSaid : Prop := rollRollsRow.holds Try.pinned (OpenSpec.ofChange rollRollsSpec)

/-- ITS FALSE NEIGHBOUR: 'it returns false'. Refute it at one input. -/
def rollRollsWrong : ChangeSpec := { name := "rollRolls", fn := fun _ => fun
  | [d1, d2, d3] => { results := [.lit (.bool false)], args := [d1, d2, d3] }
  | _ => none }
def RollRollsWrongFalsely : Prop := rollRollsRow.holds Try.pinned (OpenSpec.ofChange rollRollsWrong)

/-- 'scupperlaw15.RollParts': WHATEVER THE INPUT: true; the input reads as it did. -/
def rollPartsSpec : ChangeSpec := { name := "rollParts", fn := fun _ => fun
  | [d1, d2, d3, d4] => { results := [.lit (.bool true)], args := [d1, d2, d3, d4] }
  | _ => none }
def rollPartsRow : OpenClaim := { program := "ytmkdhgigghgieaa", sum := "565478b73bccd342d0fa0bf58651c3b559fad03a2cd4c3a1844a384fb2e8111d", func := "scupper/scupperlaw15.RollParts", spec := "rollParts", unfollowed := true, recurses := true, apart := false }
def RollPartsSaid : Prop := rollPartsRow.holds Try.pinned (OpenSpec.ofChange rollPartsSpec)

/-- ITS FALSE NEIGHBOUR: 'it returns false'. Refute it at one input. -/
def rollPartsWrong : ChangeSpec := { name := "rollParts", fn := fun _ => fun
  | [d1, d2, d3, d4] => { results := [.lit (.bool false)], args := [d1, d2, d3, d4] }
  | _ => none }
def RollPartsWrongFalsely : Prop := rollPartsRow.holds Try.pinned (OpenSpec.ofChange rollPartsWrong)

/- THE SECOND FORM. 'bulk': how many values and letters a reading holds, each counted each time it is reached (what is shared counts as often as it is met; a slice's spare places count too). A statement '..UptoSaid' is the law's where the arguments, and the package variables that the reading takes, are together of bulk at most 1048576: NARROWER than '..Said'. Prove '..Said' where nothing that the law and all that it calls make is longer than what came in: it says more and counts as full. Else prove '..UptoSaid'. A law counts once. -/
mutual
def uptoBulk {H : Type} : DataW H → Nat
  | .lit (.string bytes) => bytes.length + 1
  | .lit _ => 1
  | .nil => 1
  | .ptr d => uptoBulk d + 1
  | .slice elems spare => uptoBulkAll elems + uptoBulkAll spare + 1
  | .agg parts => uptoBulkAll parts + 1
  | .iface _ d => uptoBulk d + 1
  | .map entries => uptoBulkEntries entries + 1
  | .held _ => 1
def uptoBulkAll {H : Type} : List (DataW H) → Nat
  | [] => 0
  | d :: r => uptoBulk d + uptoBulkAll r
def uptoBulkEntries {H : Type} : List (Lit × DataW H) → Nat
  | [] => 0
  | x :: r => uptoBulkEntry x + uptoBulkEntries r
def uptoBulkEntry {H : Type} : Lit × DataW H → Nat
  | (.string bytes, d) => bytes.length + uptoBulk d + 1
  | (_, d) => uptoBulk d + 1
 end
def uptoSmall : (H : Type) → List (DataW H) → Bool := fun _ ds => decide (uptoBulkAll ds ≤ 1048576)
def OpenSpec.upto (s : _root_.Go.ChangeSpec) : _root_.Go.OpenSpec := { _root_.Go.OpenSpec.ofChange s with cond := some uptoSmall }

/-- 'scupperlaw15.RollOn', WHERE WHAT IT READS IS OF BULK AT MOST 1048576: true; the input reads as it did. -/
def rollOnUptoRow : OpenClaim := { program := "ytmkdhgigghgieaa", sum := "565478b73bccd342d0fa0bf58651c3b559fad03a2cd4c3a1844a384fb2e8111d", func := "scupper/scupperlaw15.RollOn", spec := "rollOn", unfollowed := true, recurses := true, apart := false, narrowed := true }
def RollOnUptoSaid : Prop := rollOnUptoRow.holds Try.pinned (OpenSpec.upto rollOnSpec)

/-- 'scupperlaw15.RollTurns', WHERE WHAT IT READS IS OF BULK AT MOST 1048576: true; the input reads as it did. -/
def rollTurnsUptoRow : OpenClaim := { program := "ytmkdhgigghgieaa", sum := "565478b73bccd342d0fa0bf58651c3b559fad03a2cd4c3a1844a384fb2e8111d", func := "scupper/scupperlaw15.RollTurns", spec := "rollTurns", unfollowed := true, recurses := true, apart := false, narrowed := true }
def RollTurnsUptoSaid : Prop := rollTurnsUptoRow.holds Try.pinned (OpenSpec.upto rollTurnsSpec)

/-- 'scupperlaw15.RollRolls', WHERE WHAT IT READS IS OF BULK AT MOST 1048576: true; the input reads as it did. -/
def rollRollsUptoRow : OpenClaim := { program := "ytmkdhgigghgieaa", sum := "565478b73bccd342d0fa0bf58651c3b559fad03a2cd4c3a1844a384fb2e8111d", func := "scupper/scupperlaw15.RollRolls", spec := "rollRolls", unfollowed := true, recurses := true, apart := false, narrowed := true }
def RollRollsUptoSaid : Prop := rollRollsUptoRow.holds Try.pinned (OpenSpec.upto rollRollsSpec)

/-- 'scupperlaw15.RollParts', WHERE WHAT IT READS IS OF BULK AT MOST 1048576: true; the input reads as it did. -/
def rollPartsUptoRow : OpenClaim := { program := "ytmkdhgigghgieaa", sum := "565478b73bccd342d0fa0bf58651c3b559fad03a2cd4c3a1844a384fb2e8111d", func := "scupper/scupperlaw15.RollParts", spec := "rollParts", unfollowed := true, recurses := true, apart := false, narrowed := true }
def RollPartsUptoSaid : Prop := rollPartsUptoRow.holds Try.pinned (OpenSpec.upto rollPartsSpec)

end Rows
end Go.Proofs.Ytmkdhgigghgieaa
