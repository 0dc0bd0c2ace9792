/-
  No cell of these rows narrows 'for every input' (looked for: loops, veiled, ifaces, maps, wideKeys, modest, calm, conditions, laid).
  DERIVED. THE GIVEN ROWS OF THIS SEAT. 5 by the template 'for every input the law returns true; each argument reads behind the call as it read before'; 0 by the template 'total and deterministic' (their statements: YtapjcmloaeaefaaTotals.lean).
  GIVEN WITH THE SEED: the statements are not yours to turn. If you find one false, say at which input.
  Laid BY PROGRAM, IN A SANDBOX (cutbox-rows.mjs): the forced cells as the released guide's own fill.sh prints them over the translation aad4e4302f99f169… (all of the seat's roots in one cut). By AI agents, Wed Nov 11 2026. No macro, syntax, notation, axiom, sorry.
-/
import Derived.Test.YtapjcmloaeaefaaChecked
import GoSem.Claim
import GoSem.ClaimJoined
import GoSem.ClaimMapViews
import Derived.JoinedTies
import Derived.KernelRfl
namespace Go.Proofs.Ytapjcmloaeaefaa
/- THE CELL 'sum', in the pinned program and in every row, IS THE sha256 OF THE DUMP (.gsa) THAT YtapjcmloaeaefaaProg.lean LOADS. Nothing in Lean hashes anything: it is a label: what it is worth is what the hold of that sum in a sandbox is worth. -/
noncomputable def Try.pinned : Pinned := { name := "ytapjcmloaeaefaa", sum := "aad4e4302f99f169cf594399d451ad90083ff13799fd0e839f7ff3225722b586", checked := Try.checked }
namespace Rows
def none {H : Type} : Left H := { results := [], args := [] }

/-- 'scupperlaw09.MapsFirst': WHATEVER THE INPUT: true; the input reads as it did. -/
def mapsFirstSpec : ChangeSpec := { name := "mapsFirst", fn := fun _ => fun
  | [d1, d2, d3, d4] => { results := [.lit (.bool true)], args := [d1, d2, d3, d4] }
  | _ => none }
def mapsFirstRow : OpenClaim := { program := "ytapjcmloaeaefaa", sum := "aad4e4302f99f169cf594399d451ad90083ff13799fd0e839f7ff3225722b586", func := "scupper/scupperlaw09.MapsFirst", spec := "mapsFirst", unfollowed := true, recurses := true, apart := false }
def MapsFirstSaid : Prop := mapsFirstRow.holds Try.pinned (OpenSpec.ofChange mapsFirstSpec)

/-- ITS FALSE NEIGHBOUR: 'it returns false'. Refute it at one input. -/
def mapsFirstWrong : ChangeSpec := { name := "mapsFirst", fn := fun _ => fun
  | [d1, d2, d3, d4] => { results := [.lit (.bool false)], args := [d1, d2, d3, d4] }
  | _ => none }
def MapsFirstWrongFalsely : Prop := mapsFirstRow.holds Try.pinned (OpenSpec.ofChange mapsFirstWrong)

/-- 'scupperlaw09.MapsOne': WHATEVER THE INPUT: true; the input reads as it did. -/
def mapsOneSpec : ChangeSpec := { name := "mapsOne", fn := fun _ => fun
  | [d1, d2, d3, d4] => { results := [.lit (.bool true)], args := [d1, d2, d3, d4] }
  | _ => none }
def mapsOneRow : OpenClaim := { program := "ytapjcmloaeaefaa", sum := "aad4e4302f99f169cf594399d451ad90083ff13799fd0e839f7ff3225722b586", func := "scupper/scupperlaw09.MapsOne", spec := "mapsOne", unfollowed := true, recurses := true, apart := false }
def MapsOneSaid : Prop := mapsOneRow.holds Try.pinned (OpenSpec.ofChange mapsOneSpec)

/-- ITS FALSE NEIGHBOUR: 'it returns false'. Refute it at one input. -/
def mapsOneWrong : ChangeSpec := { name := "mapsOne", fn := fun _ => fun
  | [d1, d2, d3, d4] => { results := [.lit (.bool false)], args := [d1, d2, d3, d4] }
  | _ => none }
def MapsOneWrongFalsely : Prop := mapsOneRow.holds Try.pinned (OpenSpec.ofChange mapsOneWrong)

/-- 'scupperlaw09.MapsHeads': WHATEVER THE INPUT: true; the input reads as it did. -/
def mapsHeadsSpec : ChangeSpec := { name := "mapsHeads", fn := fun _ => fun
  | [d1, d2, d3] => { results := [.lit (.bool true)], args := [d1, d2, d3] }
  | _ => none }
def mapsHeadsRow : OpenClaim := { program := "ytapjcmloaeaefaa", sum := "aad4e4302f99f169cf594399d451ad90083ff13799fd0e839f7ff3225722b586", func := "scupper/scupperlaw09.MapsHeads", spec := "mapsHeads", unfollowed := true, recurses := true, apart := false }
def MapsHeadsSaid : Prop := mapsHeadsRow.holds Try.pinned (OpenSpec.ofChange mapsHeadsSpec)

/-- ITS FALSE NEIGHBOUR: 'it returns false'. Refute it at one input. -/
def mapsHeadsWrong : ChangeSpec := { name := "mapsHeads", fn := fun _ => fun
  | [d1, d2, d3] => { results := [.lit (.bool false)], args := [d1, d2, d3] }
  | _ => none }
def MapsHeadsWrongFalsely : Prop := mapsHeadsRow.holds Try.pinned (OpenSpec.ofChange mapsHeadsWrong)

/-- 'scupperlaw09.MapsTells': WHATEVER THE INPUT: true; the input reads as it did. -/
def mapsTellsSpec : ChangeSpec := { name := "mapsTells", fn := fun _ => fun
  | [d1, d2, d3, d4, d5] => { results := [.lit (.bool true)], args := [d1, d2, d3, d4, d5] }
  | _ => none }
def mapsTellsRow : OpenClaim := { program := "ytapjcmloaeaefaa", sum := "aad4e4302f99f169cf594399d451ad90083ff13799fd0e839f7ff3225722b586", func := "scupper/scupperlaw09.MapsTells", spec := "mapsTells", unfollowed := true, recurses := true, apart := false }
def MapsTellsSaid : Prop := mapsTellsRow.holds Try.pinned (OpenSpec.ofChange mapsTellsSpec)

/-- ITS FALSE NEIGHBOUR: 'it returns false'. Refute it at one input. -/
def mapsTellsWrong : ChangeSpec := { name := "mapsTells", fn := fun _ => fun
  | [d1, d2, d3, d4, d5] => { results := [.lit (.bool false)], args := [d1, d2, d3, d4, d5] }
  | _ => none }
def MapsTellsWrongFalsely : Prop := mapsTellsRow.holds Try.pinned (OpenSpec.ofChange mapsTellsWrong)

/-- 'scupperlaw09.MapsCounts': WHATEVER THE INPUT: true; the input reads as it did. -/
def mapsCountsSpec : ChangeSpec := { name := "mapsCounts", fn := fun _ => fun
  | [d1, d2, d3, d4] => { results := [.lit (.bool true)], args := [d1, d2, d3, d4] }
  | _ => none }
def mapsCountsRow : OpenClaim := { program := "ytapjcmloaeaefaa", sum := "aad4e4302f99f169cf594399d451ad90083ff13799fd0e839f7ff3225722b586", func := "scupper/scupperlaw09.MapsCounts", spec := "mapsCounts", unfollowed := true, recurses := true, apart := false }
def MapsCountsSaid : Prop := mapsCountsRow.holds Try.pinned (OpenSpec.ofChange mapsCountsSpec)

/-- ITS FALSE NEIGHBOUR: 'it returns false'. Refute it at one input. -/
def mapsCountsWrong : ChangeSpec := { name := "mapsCounts", fn := fun _ => fun
  | [d1, d2, d3, d4] => { results := [.lit (.bool false)], args := [d1, d2, d3, d4] }
  | _ => none }
def MapsCountsWrongFalsely : Prop := mapsCountsRow.holds Try.pinned (OpenSpec.ofChange mapsCountsWrong)

/- THE SECOND FORM. 'bulk': how many values and letters a reading holds, each counted each time it is reached (what is shared counts as often as it is met; a slice's spare places count too). A statement '..UptoSaid' is the law's where the arguments, and the package variables that the reading takes, are together of bulk at most 1048576: NARROWER than '..Said'. Prove '..Said' where nothing that the law and all that it calls make is longer than what came in: it says more and counts as full. Else prove '..UptoSaid'. A law counts once. -/
mutual
def uptoBulk {H : Type} : DataW H → Nat
  | .lit (.string bytes) => bytes.length + 1
  | .lit _ => 1
  | .nil => 1
  | .ptr d => uptoBulk d + 1
  | .slice elems spare => uptoBulkAll elems + uptoBulkAll spare + 1
  | .agg parts => uptoBulkAll parts + 1
  | .iface _ d => uptoBulk d + 1
  | .map entries => uptoBulkEntries entries + 1
  | .held _ => 1
def uptoBulkAll {H : Type} : List (DataW H) → Nat
  | [] => 0
  | d :: r => uptoBulk d + uptoBulkAll r
def uptoBulkEntries {H : Type} : List (Lit × DataW H) → Nat
  | [] => 0
  | x :: r => uptoBulkEntry x + uptoBulkEntries r
def uptoBulkEntry {H : Type} : Lit × DataW H → Nat
  | (.string bytes, d) => bytes.length + uptoBulk d + 1
  | (_, d) => uptoBulk d + 1
 end
def uptoSmall : (H : Type) → List (DataW H) → Bool := fun _ ds => decide (uptoBulkAll ds ≤ 1048576)
def OpenSpec.upto (s : _root_.Go.ChangeSpec) : _root_.Go.OpenSpec := { _root_.Go.OpenSpec.ofChange s with cond := some uptoSmall }

/-- 'scupperlaw09.MapsFirst', WHERE WHAT IT READS IS OF BULK AT MOST 1048576: true; the input reads as it did. -/
def mapsFirstUptoRow : OpenClaim := { program := "ytapjcmloaeaefaa", sum := "aad4e4302f99f169cf594399d451ad90083ff13799fd0e839f7ff3225722b586", func := "scupper/scupperlaw09.MapsFirst", spec := "mapsFirst", unfollowed := true, recurses := true, apart := false, narrowed := true }
def MapsFirstUptoSaid : Prop := mapsFirstUptoRow.holds Try.pinned (OpenSpec.upto mapsFirstSpec)

/-- 'scupperlaw09.MapsOne', WHERE WHAT IT READS IS OF BULK AT MOST 1048576: true; the input reads as it did. -/
def mapsOneUptoRow : OpenClaim := { program := "ytapjcmloaeaefaa", sum := "aad4e4302f99f169cf594399d451ad90083ff13799fd0e839f7ff3225722b586", func := "scupper/scupperlaw09.MapsOne", spec := "mapsOne", unfollowed := true, recurses := true, apart := false, narrowed := true }
def MapsOneUptoSaid : Prop := mapsOneUptoRow.holds Try.pinned (OpenSpec.upto mapsOneSpec)

/-- 'scupperlaw09.MapsHeads', WHERE WHAT IT READS IS OF BULK AT MOST 1048576: true; the input reads as it did. -/
def mapsHeadsUptoRow : OpenClaim := { program := "ytapjcmloaeaefaa", sum := "aad4e4302f99f169cf594399d451ad90083ff13799fd0e839f7ff3225722b586", func := "scupper/scupperlaw09.MapsHeads", spec := "mapsHeads", unfollowed := true, recurses := true, apart := false, narrowed := true }
def MapsHeadsUptoSaid : Prop := mapsHeadsUptoRow.holds Try.pinned (OpenSpec.upto mapsHeadsSpec)

/-- 'scupperlaw09.MapsTells', WHERE WHAT IT READS IS OF BULK AT MOST 1048576: true; the input reads as it did. -/
def mapsTellsUptoRow : OpenClaim := { program := "ytapjcmloaeaefaa", sum := "aad4e4302f99f169cf594399d451ad90083ff13799fd0e839f7ff3225722b586", func := "scupper/scupperlaw09.MapsTells", spec := "mapsTells", unfollowed := true, recurses := true, apart := false, narrowed := true }
def MapsTellsUptoSaid : Prop := mapsTellsUptoRow.holds Try.pinned (OpenSpec.upto mapsTellsSpec)

/-- 'scupperlaw09.MapsCounts', WHERE WHAT IT READS IS OF BULK AT MOST 1048576: true; the input reads as it did. -/
def mapsCountsUptoRow : OpenClaim := { program := "ytapjcmloaeaefaa", sum := "aad4e4302f99f169cf594399d451ad90083ff13799fd0e839f7ff3225722b586", func := "scupper/scupperlaw09.MapsCounts", spec := "mapsCounts", unfollowed := true, recurses := true, apart := false, narrowed := true }
def MapsCountsUptoSaid : Prop := mapsCountsUptoRow.holds Try.pinned (OpenSpec.upto mapsCountsSpec)

end Rows
end Go.Proofs.Ytapjcmloaeaefaa
