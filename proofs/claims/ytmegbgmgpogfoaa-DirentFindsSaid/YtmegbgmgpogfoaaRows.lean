/-
  No cell of these rows narrows 'for every input' (looked for: loops, veiled, ifaces, maps, wideKeys, modest, calm, conditions, laid).
  DERIVED. THE GIVEN ROWS OF THIS SEAT. 5 by the template 'for every input the law returns true; each argument reads behind the call as it read before'; 0 by the template 'total and deterministic' (their statements: YtmegbgmgpogfoaaTotals.lean).
  GIVEN WITH THE SEED: the statements are not yours to turn. If you find one false, say at which input.
  Laid BY PROGRAM, IN A SANDBOX (cutbox-rows.mjs): the forced cells as the released guide's own fill.sh prints them over the translation e6f13fde453a08f8… (all of the seat's roots in one cut). By AI agents, Wed Nov 11 2026. No macro, syntax, notation, axiom, sorry.
-/
import Derived.Test.YtmegbgmgpogfoaaChecked
import GoSem.Claim
import GoSem.ClaimJoined
import GoSem.ClaimMapViews
import Derived.JoinedTies
import Derived.KernelRfl
namespace Go.Proofs.Ytmegbgmgpogfoaa
/- THE CELL 'sum', in the pinned program and in every row, IS THE sha256 OF THE DUMP (.gsa) THAT YtmegbgmgpogfoaaProg.lean LOADS. Nothing in Lean hashes anything: it is a label: what it is worth is what the hold of that sum in a sandbox is worth. -/
noncomputable def Try.pinned : Pinned := { name := "ytmegbgmgpogfoaa", sum := "e6f13fde453a08f8f15d97bb6ec0e8a80a09daab4f6699124d3c92b0e6a3ed19", checked := Try.checked }
namespace Rows
def none {H : Type} : Left H := { results := [], args := [] }

/-- 'scupperlaw12.DirentPuts': WHATEVER THE INPUT: true; the input reads as it did. -/
def direntPutsSpec : ChangeSpec := { name := "direntPuts", fn := fun _ => fun
  | [d] => { results := [.lit (.bool true)], args := [d] }
  | _ => none }
def direntPutsRow : OpenClaim := { program := "ytmegbgmgpogfoaa", sum := "e6f13fde453a08f8f15d97bb6ec0e8a80a09daab4f6699124d3c92b0e6a3ed19", func := "scupper/scupperlaw12.DirentPuts", spec := "direntPuts", unfollowed := true, recurses := true, apart := false }
def DirentPutsSaid : Prop := direntPutsRow.holds Try.pinned (OpenSpec.ofChange direntPutsSpec)

/-- ITS FALSE NEIGHBOUR: 'it returns false'. Refute it at one input. -/
def direntPutsWrong : ChangeSpec := { name := "direntPuts", fn := fun _ => fun
  | [d] => { results := [.lit (.bool false)], args := [d] }
  | _ => none }
def DirentPutsWrongFalsely : Prop := direntPutsRow.holds Try.pinned (OpenSpec.ofChange direntPutsWrong)

/-- 'scupperlaw12.DirentNames': WHATEVER THE INPUT: true; the input reads as it did. -/
def direntNamesSpec : ChangeSpec := { name := "direntNames", fn := fun _ => fun
  | [d] => { results := [.lit (.bool true)], args := [d] }
  | _ => none }
def direntNamesRow : OpenClaim := { program := "ytmegbgmgpogfoaa", sum := "e6f13fde453a08f8f15d97bb6ec0e8a80a09daab4f6699124d3c92b0e6a3ed19", func := "scupper/scupperlaw12.DirentNames", spec := "direntNames", unfollowed := true, recurses := true, apart := false }
def DirentNamesSaid : Prop := direntNamesRow.holds Try.pinned (OpenSpec.ofChange direntNamesSpec)

/-- ITS FALSE NEIGHBOUR: 'it returns false'. Refute it at one input. -/
def direntNamesWrong : ChangeSpec := { name := "direntNames", fn := fun _ => fun
  | [d] => { results := [.lit (.bool false)], args := [d] }
  | _ => none }
def DirentNamesWrongFalsely : Prop := direntNamesRow.holds Try.pinned (OpenSpec.ofChange direntNamesWrong)

/-- 'scupperlaw12.DirentBack': WHATEVER THE INPUT: true; the input reads as it did. -/
def direntBackSpec : ChangeSpec := { name := "direntBack", fn := fun _ => fun
  | [d1, d2, d3] => { results := [.lit (.bool true)], args := [d1, d2, d3] }
  | _ => none }
def direntBackRow : OpenClaim := { program := "ytmegbgmgpogfoaa", sum := "e6f13fde453a08f8f15d97bb6ec0e8a80a09daab4f6699124d3c92b0e6a3ed19", func := "scupper/scupperlaw12.DirentBack", spec := "direntBack", unfollowed := true, recurses := true, apart := false }
def DirentBackSaid : Prop := direntBackRow.holds Try.pinned (OpenSpec.ofChange direntBackSpec)

/-- ITS FALSE NEIGHBOUR: 'it returns false'. Refute it at one input. -/
def direntBackWrong : ChangeSpec := { name := "direntBack", fn := fun _ => fun
  | [d1, d2, d3] => { results := [.lit (.bool false)], args := [d1, d2, d3] }
  | _ => none }
def DirentBackWrongFalsely : Prop := direntBackRow.holds Try.pinned (OpenSpec.ofChange direntBackWrong)

/-- 'scupperlaw12.DirentFinds': WHATEVER THE INPUT: true; the input reads as it did. -/
def direntFindsSpec : ChangeSpec := { name := "direntFinds", fn := fun _ => fun
  | [d1, d2] => { results := [.lit (.bool true)], args := [d1, d2] }
  | _ => none }
def direntFindsRow : OpenClaim := { program := "ytmegbgmgpogfoaa", sum := "e6f13fde453a08f8f15d97bb6ec0e8a80a09daab4f6699124d3c92b0e6a3ed19", func := "scupper/scupperlaw12.DirentFinds", spec := "direntFinds", unfollowed := true, recurses := true, apart := false }
def DirentFindsSaid : Prop := direntFindsRow.holds Try.pinned (OpenSpec.ofChange direntFindsSpec)

/-- ITS FALSE NEIGHBOUR: 'it returns false'. Refute it at one input. -/
def direntFindsWrong : ChangeSpec := { name := "direntFinds", fn := fun _ => fun
  | [d1, d2] => { results := [.lit (.bool false)], args := [d1, d2] }
  | _ => none }
def DirentFindsWrongFalsely : Prop := direntFindsRow.holds Try.pinned (OpenSpec.ofChange direntFindsWrong)

/-- 'scupperlaw12.DirentLoads': WHATEVER THE INPUT: true; the input reads as it did. -/
def direntLoadsSpec : ChangeSpec := { name := "direntLoads", fn := fun _ => fun
  | [d1, d2, d3] => { results := [.lit (.bool true)], args := [d1, d2, d3] }
  | _ => none }
def direntLoadsRow : OpenClaim := { program := "ytmegbgmgpogfoaa", sum := "e6f13fde453a08f8f15d97bb6ec0e8a80a09daab4f6699124d3c92b0e6a3ed19", func := "scupper/scupperlaw12.DirentLoads", spec := "direntLoads", unfollowed := true, recurses := true, apart := false }
def DirentLoadsSaid : Prop := direntLoadsRow.holds Try.pinned (OpenSpec.ofChange direntLoadsSpec)

/-- ITS FALSE NEIGHBOUR: 'it returns false'. Refute it at one input. -/
def direntLoadsWrong : ChangeSpec := { name := "direntLoads", fn := fun _ => fun
  | [d1, d2, d3] => { results := [.lit (.bool false)], args := [d1, d2, d3] }
  | _ => none }
def DirentLoadsWrongFalsely : Prop := direntLoadsRow.holds Try.pinned (OpenSpec.ofChange direntLoadsWrong)

/- THE SECOND FORM. 'bulk': how many values and letters a reading holds, each counted each time it is reached (what is shared counts as often as it is met; a slice's spare places count too). A statement '..UptoSaid' is the law's where the arguments, and the package variables that the reading takes, are together of bulk at most 1048576: NARROWER than '..Said'. Prove '..Said' where nothing that the law and all that it calls make is longer than what came in: it says more and counts as full. Else prove '..UptoSaid'. A law counts once. -/
mutual
def uptoBulk {H : Type} : DataW H → Nat
  | .lit (.string bytes) => bytes.length + 1
  | .lit _ => 1
  | .nil => 1
  | .ptr d => uptoBulk d + 1
  | .slice elems spare => uptoBulkAll elems + uptoBulkAll spare + 1
  | .agg parts => uptoBulkAll parts + 1
  | .iface _ d => uptoBulk d + 1
  | .map entries => uptoBulkEntries entries + 1
  | .held _ => 1
def uptoBulkAll {H : Type} : List (DataW H) → Nat
  | [] => 0
  | d :: r => uptoBulk d + uptoBulkAll r
def uptoBulkEntries {H : Type} : List (Lit × DataW H) → Nat
  | [] => 0
  | x :: r => uptoBulkEntry x + uptoBulkEntries r
def uptoBulkEntry {H : Type} : Lit × DataW H → Nat
  | (.string bytes, d) => bytes.length + uptoBulk d + 1
  | (_, d) => uptoBulk d + 1
 end
def uptoSmall : (H : Type) → List (DataW H) → Bool := fun _ ds => decide (uptoBulkAll ds ≤ 1048576)
def OpenSpec.upto (s : _root_.Go.ChangeSpec) : _root_.Go.OpenSpec := { _root_.Go.OpenSpec.ofChange s with cond := some uptoSmall }

/-- 'scupperlaw12.DirentPuts', WHERE WHAT IT READS IS OF BULK AT MOST 1048576: true; the input reads as it did. -/
def direntPutsUptoRow : OpenClaim := { program := "ytmegbgmgpogfoaa", sum := "e6f13fde453a08f8f15d97bb6ec0e8a80a09daab4f6699124d3c92b0e6a3ed19", func := "scupper/scupperlaw12.DirentPuts", spec := "direntPuts", unfollowed := true, recurses := true, apart := false, narrowed := true }
def DirentPutsUptoSaid : Prop := direntPutsUptoRow.holds Try.pinned (OpenSpec.upto direntPutsSpec)

/-- 'scupperlaw12.DirentNames', WHERE WHAT IT READS IS OF BULK AT MOST 1048576: true; the input reads as it did. -/
def direntNamesUptoRow : OpenClaim := { program := "ytmegbgmgpogfoaa", sum := "e6f13fde453a08f8f15d97bb6ec0e8a80a09daab4f6699124d3c92b0e6a3ed19", func := "scupper/scupperlaw12.DirentNames", spec := "direntNames", unfollowed := true, recurses := true, apart := false, narrowed := true }
def DirentNamesUptoSaid : Prop := direntNamesUptoRow.holds Try.pinned (OpenSpec.upto direntNamesSpec)

/-- 'scupperlaw12.DirentBack', WHERE WHAT IT READS IS OF BULK AT MOST 1048576: true; the input reads as it did. -/
def direntBackUptoRow : OpenClaim := { program := "ytmegbgmgpogfoaa", sum := "e6f13fde453a08f8f15d97bb6ec0e8a80a09daab4f6699124d3c92b0e6a3ed19", func := "scupper/scupperlaw12.DirentBack", spec := "direntBack", unfollowed := true, recurses := true, apart := false, narrowed := true }
def DirentBackUptoSaid : Prop := direntBackUptoRow.holds Try.pinned (OpenSpec.upto direntBackSpec)

/-- 'scupperlaw12.DirentFinds', WHERE WHAT IT READS IS OF BULK AT MOST 1048576: true; the input reads as it did. -/
def direntFindsUptoRow : OpenClaim := { program := "ytmegbgmgpogfoaa", sum := "e6f13fde453a08f8f15d97bb6ec0e8a80a09daab4f6699124d3c92b0e6a3ed19", func := "scupper/scupperlaw12.DirentFinds", spec := "direntFinds", unfollowed := true, recurses := true, apart := false, narrowed := true }
def DirentFindsUptoSaid : Prop := direntFindsUptoRow.holds Try.pinned (OpenSpec.upto direntFindsSpec)

/-- 'scupperlaw12.DirentLoads', WHERE WHAT IT READS IS OF BULK AT MOST 1048576: true; the input reads as it did. -/
def direntLoadsUptoRow : OpenClaim := { program := "ytmegbgmgpogfoaa", sum := "e6f13fde453a08f8f15d97bb6ec0e8a80a09daab4f6699124d3c92b0e6a3ed19", func := "scupper/scupperlaw12.DirentLoads", spec := "direntLoads", unfollowed := true, recurses := true, apart := false, narrowed := true }
def DirentLoadsUptoSaid : Prop := direntLoadsUptoRow.holds Try.pinned (OpenSpec.upto direntLoadsSpec)

end Rows
end Go.Proofs.Ytmegbgmgpogfoaa
