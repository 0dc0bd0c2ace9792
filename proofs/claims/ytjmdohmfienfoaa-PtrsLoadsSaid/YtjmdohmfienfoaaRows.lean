/-
  No cell of these rows narrows 'for every input' (looked for: loops, veiled, ifaces, maps, wideKeys, modest, calm, conditions, laid).
  DERIVED. THE GIVEN ROWS OF THIS SEAT. 4 by the template 'for every input the law returns true; each argument reads behind the call as it read before'; 0 by the template 'total and deterministic' (their statements: YtjmdohmfienfoaaTotals.lean).
  GIVEN WITH THE SEED: the statements are not yours to turn. If you find one false, say at which input.
  Laid BY PROGRAM, IN A SANDBOX (cutbox-rows.mjs): the forced cells as the released guide's own fill.sh prints them over the translation da92360f19c32c3c… (all of the seat's roots in one cut). By AI agents, Wed Nov 11 2026. No macro, syntax, notation, axiom, sorry.
-/
import Derived.Test.YtjmdohmfienfoaaChecked
import GoSem.Claim
import GoSem.ClaimJoined
import GoSem.ClaimMapViews
import Derived.JoinedTies
import Derived.KernelRfl
namespace Go.Proofs.Ytjmdohmfienfoaa
/- THE CELL 'sum', in the pinned program and in every row, IS THE sha256 OF THE DUMP (.gsa) THAT YtjmdohmfienfoaaProg.lean LOADS. Nothing in Lean hashes anything: it is a label: what it is worth is what the hold of that sum in a sandbox is worth. -/
noncomputable def Try.pinned : Pinned := { name := "ytjmdohmfienfoaa", sum := "da92360f19c32c3c4c866b1d6b1e79c6681b02e2e91f773c79190cdd0197ab08", checked := Try.checked }
namespace Rows
def none {H : Type} : Left H := { results := [], args := [] }

/-- 'scupperlaw11.PtrsBlocks': WHATEVER THE INPUT: true; the input reads as it did. -/
def ptrsBlocksSpec : ChangeSpec := { name := "ptrsBlocks", fn := fun _ => fun
  | [d] => { results := [.lit (.bool true)], args := [d] }
  | _ => none }
def ptrsBlocksRow : OpenClaim := { program := "ytjmdohmfienfoaa", sum := "da92360f19c32c3c4c866b1d6b1e79c6681b02e2e91f773c79190cdd0197ab08", func := "scupper/scupperlaw11.PtrsBlocks", spec := "ptrsBlocks", apart := false }
def PtrsBlocksSaid : Prop := ptrsBlocksRow.holds Try.pinned (OpenSpec.ofChange ptrsBlocksSpec)

/-- ITS FALSE NEIGHBOUR: 'it returns false'. Refute it at one input. -/
def ptrsBlocksWrong : ChangeSpec := { name := "ptrsBlocks", fn := fun _ => fun
  | [d] => { results := [.lit (.bool false)], args := [d] }
  | _ => none }
def PtrsBlocksWrongFalsely : Prop := ptrsBlocksRow.holds Try.pinned (OpenSpec.ofChange ptrsBlocksWrong)

/-- 'scupperlaw11.PtrsWays': WHATEVER THE INPUT: true; the input reads as it did. -/
def ptrsWaysSpec : ChangeSpec := { name := "ptrsWays", fn := fun _ => fun
  | [d1, d2, d3] => { results := [.lit (.bool true)], args := [d1, d2, d3] }
  | _ => none }
def ptrsWaysRow : OpenClaim := { program := "ytjmdohmfienfoaa", sum := "da92360f19c32c3c4c866b1d6b1e79c6681b02e2e91f773c79190cdd0197ab08", func := "scupper/scupperlaw11.PtrsWays", spec := "ptrsWays", apart := false }
def PtrsWaysSaid : Prop := ptrsWaysRow.holds Try.pinned (OpenSpec.ofChange ptrsWaysSpec)

/-- ITS FALSE NEIGHBOUR: 'it returns false'. Refute it at one input. -/
def ptrsWaysWrong : ChangeSpec := { name := "ptrsWays", fn := fun _ => fun
  | [d1, d2, d3] => { results := [.lit (.bool false)], args := [d1, d2, d3] }
  | _ => none }
def PtrsWaysWrongFalsely : Prop := ptrsWaysRow.holds Try.pinned (OpenSpec.ofChange ptrsWaysWrong)

/-- 'scupperlaw11.PtrsBack': WHATEVER THE INPUT: true; the input reads as it did. -/
def ptrsBackSpec : ChangeSpec := { name := "ptrsBack", fn := fun _ => fun
  | [d1, d2] => { results := [.lit (.bool true)], args := [d1, d2] }
  | _ => none }
def ptrsBackRow : OpenClaim := { program := "ytjmdohmfienfoaa", sum := "da92360f19c32c3c4c866b1d6b1e79c6681b02e2e91f773c79190cdd0197ab08", func := "scupper/scupperlaw11.PtrsBack", spec := "ptrsBack", apart := false }
def PtrsBackSaid : Prop := ptrsBackRow.holds Try.pinned (OpenSpec.ofChange ptrsBackSpec)

/-- ITS FALSE NEIGHBOUR: 'it returns false'. Refute it at one input. -/
def ptrsBackWrong : ChangeSpec := { name := "ptrsBack", fn := fun _ => fun
  | [d1, d2] => { results := [.lit (.bool false)], args := [d1, d2] }
  | _ => none }
def PtrsBackWrongFalsely : Prop := ptrsBackRow.holds Try.pinned (OpenSpec.ofChange ptrsBackWrong)

/-- 'scupperlaw11.PtrsLoads': WHATEVER THE INPUT: true; the input reads as it did. -/
def ptrsLoadsSpec : ChangeSpec := { name := "ptrsLoads", fn := fun _ => fun
  | [d1, d2, d3] => { results := [.lit (.bool true)], args := [d1, d2, d3] }
  | _ => none }
def ptrsLoadsRow : OpenClaim := { program := "ytjmdohmfienfoaa", sum := "da92360f19c32c3c4c866b1d6b1e79c6681b02e2e91f773c79190cdd0197ab08", func := "scupper/scupperlaw11.PtrsLoads", spec := "ptrsLoads", unfollowed := true, recurses := true, apart := false }
def PtrsLoadsSaid : Prop := ptrsLoadsRow.holds Try.pinned (OpenSpec.ofChange ptrsLoadsSpec)

/-- ITS FALSE NEIGHBOUR: 'it returns false'. Refute it at one input. -/
def ptrsLoadsWrong : ChangeSpec := { name := "ptrsLoads", fn := fun _ => fun
  | [d1, d2, d3] => { results := [.lit (.bool false)], args := [d1, d2, d3] }
  | _ => none }
def PtrsLoadsWrongFalsely : Prop := ptrsLoadsRow.holds Try.pinned (OpenSpec.ofChange ptrsLoadsWrong)

/- THE SECOND FORM. 'bulk': how many values and letters a reading holds, each counted each time it is reached (what is shared counts as often as it is met; a slice's spare places count too). A statement '..UptoSaid' is the law's where the arguments, and the package variables that the reading takes, are together of bulk at most 1048576: NARROWER than '..Said'. Prove '..Said' where nothing that the law and all that it calls make is longer than what came in: it says more and counts as full. Else prove '..UptoSaid'. A law counts once. -/
mutual
def uptoBulk {H : Type} : DataW H → Nat
  | .lit (.string bytes) => bytes.length + 1
  | .lit _ => 1
  | .nil => 1
  | .ptr d => uptoBulk d + 1
  | .slice elems spare => uptoBulkAll elems + uptoBulkAll spare + 1
  | .agg parts => uptoBulkAll parts + 1
  | .iface _ d => uptoBulk d + 1
  | .map entries => uptoBulkEntries entries + 1
  | .held _ => 1
def uptoBulkAll {H : Type} : List (DataW H) → Nat
  | [] => 0
  | d :: r => uptoBulk d + uptoBulkAll r
def uptoBulkEntries {H : Type} : List (Lit × DataW H) → Nat
  | [] => 0
  | x :: r => uptoBulkEntry x + uptoBulkEntries r
def uptoBulkEntry {H : Type} : Lit × DataW H → Nat
  | (.string bytes, d) => bytes.length + uptoBulk d + 1
  | (_, d) => uptoBulk d + 1
 end
def uptoSmall : (H : Type) → List (DataW H) → Bool := fun _ ds => decide (uptoBulkAll ds ≤ 1048576)
def OpenSpec.upto (s : _root_.Go.ChangeSpec) : _root_.Go.OpenSpec := { _root_.Go.OpenSpec.ofChange s with cond := some uptoSmall }

/-- 'scupperlaw11.PtrsBlocks', WHERE WHAT IT READS IS OF BULK AT MOST 1048576: true; the input reads as it did. -/
def ptrsBlocksUptoRow : OpenClaim := { program := "ytjmdohmfienfoaa", sum := "da92360f19c32c3c4c866b1d6b1e79c6681b02e2e91f773c79190cdd0197ab08", func := "scupper/scupperlaw11.PtrsBlocks", spec := "ptrsBlocks", apart := false, narrowed := true }
def PtrsBlocksUptoSaid : Prop := ptrsBlocksUptoRow.holds Try.pinned (OpenSpec.upto ptrsBlocksSpec)

/-- 'scupperlaw11.PtrsWays', WHERE WHAT IT READS IS OF BULK AT MOST 1048576: true; the input reads as it did. -/
def ptrsWaysUptoRow : OpenClaim := { program := "ytjmdohmfienfoaa", sum := "da92360f19c32c3c4c866b1d6b1e79c6681b02e2e91f773c79190cdd0197ab08", func := "scupper/scupperlaw11.PtrsWays", spec := "ptrsWays", apart := false, narrowed := true }
def PtrsWaysUptoSaid : Prop := ptrsWaysUptoRow.holds Try.pinned (OpenSpec.upto ptrsWaysSpec)

/-- 'scupperlaw11.PtrsBack', WHERE WHAT IT READS IS OF BULK AT MOST 1048576: true; the input reads as it did. -/
def ptrsBackUptoRow : OpenClaim := { program := "ytjmdohmfienfoaa", sum := "da92360f19c32c3c4c866b1d6b1e79c6681b02e2e91f773c79190cdd0197ab08", func := "scupper/scupperlaw11.PtrsBack", spec := "ptrsBack", apart := false, narrowed := true }
def PtrsBackUptoSaid : Prop := ptrsBackUptoRow.holds Try.pinned (OpenSpec.upto ptrsBackSpec)

/-- 'scupperlaw11.PtrsLoads', WHERE WHAT IT READS IS OF BULK AT MOST 1048576: true; the input reads as it did. -/
def ptrsLoadsUptoRow : OpenClaim := { program := "ytjmdohmfienfoaa", sum := "da92360f19c32c3c4c866b1d6b1e79c6681b02e2e91f773c79190cdd0197ab08", func := "scupper/scupperlaw11.PtrsLoads", spec := "ptrsLoads", unfollowed := true, recurses := true, apart := false, narrowed := true }
def PtrsLoadsUptoSaid : Prop := ptrsLoadsUptoRow.holds Try.pinned (OpenSpec.upto ptrsLoadsSpec)

end Rows
end Go.Proofs.Ytjmdohmfienfoaa
