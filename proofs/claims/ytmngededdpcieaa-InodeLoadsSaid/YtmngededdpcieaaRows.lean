/-
  No cell of these rows narrows 'for every input' (looked for: loops, veiled, ifaces, maps, wideKeys, modest, calm, conditions, laid).
  DERIVED. THE GIVEN ROWS OF THIS SEAT. 5 by the template 'for every input the law returns true; each argument reads behind the call as it read before'; 0 by the template 'total and deterministic' (their statements: YtmngededdpcieaaTotals.lean).
  GIVEN WITH THE SEED: the statements are not yours to turn. If you find one false, say at which input.
  Laid BY PROGRAM, IN A SANDBOX (cutbox-rows.mjs): the forced cells as the released guide's own fill.sh prints them over the translation 18afa9fd5b40b5a9… (all of the seat's roots in one cut). By AI agents, Wed Nov 11 2026. No macro, syntax, notation, axiom, sorry.
-/
import Derived.Test.YtmngededdpcieaaChecked
import GoSem.Claim
import GoSem.ClaimJoined
import GoSem.ClaimMapViews
import Derived.JoinedTies
import Derived.KernelRfl
namespace Go.Proofs.Ytmngededdpcieaa
/- THE CELL 'sum', in the pinned program and in every row, IS THE sha256 OF THE DUMP (.gsa) THAT YtmngededdpcieaaProg.lean LOADS. Nothing in Lean hashes anything: it is a label: what it is worth is what the hold of that sum in a sandbox is worth. -/
noncomputable def Try.pinned : Pinned := { name := "ytmngededdpcieaa", sum := "18afa9fd5b40b5a9d5a26bc818b0476090d1feea1ef9cfb88ad30a9879028028", checked := Try.checked }
namespace Rows
def none {H : Type} : Left H := { results := [], args := [] }

/-- 'scupperlaw10.InodeChecks': WHATEVER THE INPUT: true; the input reads as it did. -/
def inodeChecksSpec : ChangeSpec := { name := "inodeChecks", fn := fun _ => fun
  | [d] => { results := [.lit (.bool true)], args := [d] }
  | _ => none }
def inodeChecksRow : OpenClaim := { program := "ytmngededdpcieaa", sum := "18afa9fd5b40b5a9d5a26bc818b0476090d1feea1ef9cfb88ad30a9879028028", func := "scupper/scupperlaw10.InodeChecks", spec := "inodeChecks", apart := false }
def InodeChecksSaid : Prop := inodeChecksRow.holds Try.pinned (OpenSpec.ofChange inodeChecksSpec)

/-- ITS FALSE NEIGHBOUR: 'it returns false'. Refute it at one input. -/
def inodeChecksWrong : ChangeSpec := { name := "inodeChecks", fn := fun _ => fun
  | [d] => { results := [.lit (.bool false)], args := [d] }
  | _ => none }
def InodeChecksWrongFalsely : Prop := inodeChecksRow.holds Try.pinned (OpenSpec.ofChange inodeChecksWrong)

/-- 'scupperlaw10.InodeFields': WHATEVER THE INPUT: true; the input reads as it did. -/
def inodeFieldsSpec : ChangeSpec := { name := "inodeFields", fn := fun _ => fun
  | [d1, d2, d3] => { results := [.lit (.bool true)], args := [d1, d2, d3] }
  | _ => none }
def inodeFieldsRow : OpenClaim := { program := "ytmngededdpcieaa", sum := "18afa9fd5b40b5a9d5a26bc818b0476090d1feea1ef9cfb88ad30a9879028028", func := "scupper/scupperlaw10.InodeFields", spec := "inodeFields", apart := false }
def InodeFieldsSaid : Prop := inodeFieldsRow.holds Try.pinned (OpenSpec.ofChange inodeFieldsSpec)

/-- ITS FALSE NEIGHBOUR: 'it returns false'. Refute it at one input. -/
def inodeFieldsWrong : ChangeSpec := { name := "inodeFields", fn := fun _ => fun
  | [d1, d2, d3] => { results := [.lit (.bool false)], args := [d1, d2, d3] }
  | _ => none }
def InodeFieldsWrongFalsely : Prop := inodeFieldsRow.holds Try.pinned (OpenSpec.ofChange inodeFieldsWrong)

/-- 'scupperlaw10.InodePuts': WHATEVER THE INPUT: true; the input reads as it did. -/
def inodePutsSpec : ChangeSpec := { name := "inodePuts", fn := fun _ => fun
  | [d1, d2] => { results := [.lit (.bool true)], args := [d1, d2] }
  | _ => none }
def inodePutsRow : OpenClaim := { program := "ytmngededdpcieaa", sum := "18afa9fd5b40b5a9d5a26bc818b0476090d1feea1ef9cfb88ad30a9879028028", func := "scupper/scupperlaw10.InodePuts", spec := "inodePuts", apart := false }
def InodePutsSaid : Prop := inodePutsRow.holds Try.pinned (OpenSpec.ofChange inodePutsSpec)

/-- ITS FALSE NEIGHBOUR: 'it returns false'. Refute it at one input. -/
def inodePutsWrong : ChangeSpec := { name := "inodePuts", fn := fun _ => fun
  | [d1, d2] => { results := [.lit (.bool false)], args := [d1, d2] }
  | _ => none }
def InodePutsWrongFalsely : Prop := inodePutsRow.holds Try.pinned (OpenSpec.ofChange inodePutsWrong)

/-- 'scupperlaw10.InodeLoads': WHATEVER THE INPUT: true; the input reads as it did. -/
def inodeLoadsSpec : ChangeSpec := { name := "inodeLoads", fn := fun _ => fun
  | [d1, d2, d3, d4] => { results := [.lit (.bool true)], args := [d1, d2, d3, d4] }
  | _ => none }
def inodeLoadsRow : OpenClaim := { program := "ytmngededdpcieaa", sum := "18afa9fd5b40b5a9d5a26bc818b0476090d1feea1ef9cfb88ad30a9879028028", func := "scupper/scupperlaw10.InodeLoads", spec := "inodeLoads", apart := false }
def InodeLoadsSaid : Prop := inodeLoadsRow.holds Try.pinned (OpenSpec.ofChange inodeLoadsSpec)

/-- ITS FALSE NEIGHBOUR: 'it returns false'. Refute it at one input. -/
def inodeLoadsWrong : ChangeSpec := { name := "inodeLoads", fn := fun _ => fun
  | [d1, d2, d3, d4] => { results := [.lit (.bool false)], args := [d1, d2, d3, d4] }
  | _ => none }
def InodeLoadsWrongFalsely : Prop := inodeLoadsRow.holds Try.pinned (OpenSpec.ofChange inodeLoadsWrong)

/-- 'scupperlaw10.InodeBack': WHATEVER THE INPUT: true; the input reads as it did. -/
def inodeBackSpec : ChangeSpec := { name := "inodeBack", fn := fun _ => fun
  | [d1, d2, d3, d4] => { results := [.lit (.bool true)], args := [d1, d2, d3, d4] }
  | _ => none }
def inodeBackRow : OpenClaim := { program := "ytmngededdpcieaa", sum := "18afa9fd5b40b5a9d5a26bc818b0476090d1feea1ef9cfb88ad30a9879028028", func := "scupper/scupperlaw10.InodeBack", spec := "inodeBack", apart := false }
def InodeBackSaid : Prop := inodeBackRow.holds Try.pinned (OpenSpec.ofChange inodeBackSpec)

/-- ITS FALSE NEIGHBOUR: 'it returns false'. Refute it at one input. -/
def inodeBackWrong : ChangeSpec := { name := "inodeBack", fn := fun _ => fun
  | [d1, d2, d3, d4] => { results := [.lit (.bool false)], args := [d1, d2, d3, d4] }
  | _ => none }
def InodeBackWrongFalsely : Prop := inodeBackRow.holds Try.pinned (OpenSpec.ofChange inodeBackWrong)

/- THE SECOND FORM. 'bulk': how many values and letters a reading holds, each counted each time it is reached (what is shared counts as often as it is met; a slice's spare places count too). A statement '..UptoSaid' is the law's where the arguments, and the package variables that the reading takes, are together of bulk at most 1048576: NARROWER than '..Said'. Prove '..Said' where nothing that the law and all that it calls make is longer than what came in: it says more and counts as full. Else prove '..UptoSaid'. A law counts once. -/
mutual
def uptoBulk {H : Type} : DataW H → Nat
  | .lit (.string bytes) => bytes.length + 1
  | .lit _ => 1
  | .nil => 1
  | .ptr d => uptoBulk d + 1
  | .slice elems spare => uptoBulkAll elems + uptoBulkAll spare + 1
  | .agg parts => uptoBulkAll parts + 1
  | .iface _ d => uptoBulk d + 1
  | .map entries => uptoBulkEntries entries + 1
  | .held _ => 1
def uptoBulkAll {H : Type} : List (DataW H) → Nat
  | [] => 0
  | d :: r => uptoBulk d + uptoBulkAll r
def uptoBulkEntries {H : Type} : List (Lit × DataW H) → Nat
  | [] => 0
  | x :: r => uptoBulkEntry x + uptoBulkEntries r
def uptoBulkEntry {H : Type} : Lit × DataW H → Nat
  | (.string bytes, d) => bytes.length + uptoBulk d + 1
  | (_, d) => uptoBulk d + 1
 end
def uptoSmall : (H : Type) → List (DataW H) → Bool := fun _ ds => decide (uptoBulkAll ds ≤ 1048576)
def OpenSpec.upto (s : _root_.Go.ChangeSpec) : _root_.Go.OpenSpec := { _root_.Go.OpenSpec.ofChange s with cond := some uptoSmall }

/-- 'scupperlaw10.InodeChecks', WHERE WHAT IT READS IS OF BULK AT MOST 1048576: true; the input reads as it did. -/
def inodeChecksUptoRow : OpenClaim := { program := "ytmngededdpcieaa", sum := "18afa9fd5b40b5a9d5a26bc818b0476090d1feea1ef9cfb88ad30a9879028028", func := "scupper/scupperlaw10.InodeChecks", spec := "inodeChecks", apart := false, narrowed := true }
def InodeChecksUptoSaid : Prop := inodeChecksUptoRow.holds Try.pinned (OpenSpec.upto inodeChecksSpec)

/-- 'scupperlaw10.InodeFields', WHERE WHAT IT READS IS OF BULK AT MOST 1048576: true; the input reads as it did. -/
def inodeFieldsUptoRow : OpenClaim := { program := "ytmngededdpcieaa", sum := "18afa9fd5b40b5a9d5a26bc818b0476090d1feea1ef9cfb88ad30a9879028028", func := "scupper/scupperlaw10.InodeFields", spec := "inodeFields", apart := false, narrowed := true }
def InodeFieldsUptoSaid : Prop := inodeFieldsUptoRow.holds Try.pinned (OpenSpec.upto inodeFieldsSpec)

/-- 'scupperlaw10.InodePuts', WHERE WHAT IT READS IS OF BULK AT MOST 1048576: true; the input reads as it did. -/
def inodePutsUptoRow : OpenClaim := { program := "ytmngededdpcieaa", sum := "18afa9fd5b40b5a9d5a26bc818b0476090d1feea1ef9cfb88ad30a9879028028", func := "scupper/scupperlaw10.InodePuts", spec := "inodePuts", apart := false, narrowed := true }
def InodePutsUptoSaid : Prop := inodePutsUptoRow.holds Try.pinned (OpenSpec.upto inodePutsSpec)

/-- 'scupperlaw10.InodeLoads', WHERE WHAT IT READS IS OF BULK AT MOST 1048576: true; the input reads as it did. -/
def inodeLoadsUptoRow : OpenClaim := { program := "ytmngededdpcieaa", sum := "18afa9fd5b40b5a9d5a26bc818b0476090d1feea1ef9cfb88ad30a9879028028", func := "scupper/scupperlaw10.InodeLoads", spec := "inodeLoads", apart := false, narrowed := true }
def InodeLoadsUptoSaid : Prop := inodeLoadsUptoRow.holds Try.pinned (OpenSpec.upto inodeLoadsSpec)

/-- 'scupperlaw10.InodeBack', WHERE WHAT IT READS IS OF BULK AT MOST 1048576: true; the input reads as it did. -/
def inodeBackUptoRow : OpenClaim := { program := "ytmngededdpcieaa", sum := "18afa9fd5b40b5a9d5a26bc818b0476090d1feea1ef9cfb88ad30a9879028028", func := "scupper/scupperlaw10.InodeBack", spec := "inodeBack", apart := false, narrowed := true }
def InodeBackUptoSaid : Prop := inodeBackUptoRow.holds Try.pinned (OpenSpec.upto inodeBackSpec)

end Rows
end Go.Proofs.Ytmngededdpcieaa
