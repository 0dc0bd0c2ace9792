/-
  No cell of these rows narrows 'for every input' (looked for: loops, veiled, ifaces, maps, wideKeys, modest, calm, conditions, laid).
  DERIVED. THE GIVEN ROWS OF THIS SEAT. 4 by the template 'for every input the law returns true; each argument reads behind the call as it read before'; 0 by the template 'total and deterministic' (their statements: YtdcngbkcemaklaaTotals.lean).
  GIVEN WITH THE SEED: the statements are not yours to turn. If you find one false, say at which input.
  Laid BY PROGRAM, IN A SANDBOX (cutbox-rows.mjs): the forced cells as the released guide's own fill.sh prints them over the translation 02865113add546d5… (all of the seat's roots in one cut). By AI agents, Wed Nov 11 2026. No macro, syntax, notation, axiom, sorry.
-/
import Derived.Test.YtdcngbkcemaklaaChecked
import GoSem.Claim
import GoSem.ClaimJoined
import GoSem.ClaimMapViews
import Derived.JoinedTies
import Derived.KernelRfl
namespace Go.Proofs.Ytdcngbkcemaklaa
/- THE CELL 'sum', in the pinned program and in every row, IS THE sha256 OF THE DUMP (.gsa) THAT YtdcngbkcemaklaaProg.lean LOADS. Nothing in Lean hashes anything: it is a label: what it is worth is what the hold of that sum in a sandbox is worth. -/
noncomputable def Try.pinned : Pinned := { name := "ytdcngbkcemaklaa", sum := "02865113add546d522537524e3bb95b5a19ed1e8c37089eda9ae6b25df00ad45", checked := Try.checked }
namespace Rows
def none {H : Type} : Left H := { results := [], args := [] }

/-- 'scupperlaw08.SuperPuts': WHATEVER THE INPUT: true; the input reads as it did. -/
def superPutsSpec : ChangeSpec := { name := "superPuts", fn := fun _ => fun
  | [d1, d2] => { results := [.lit (.bool true)], args := [d1, d2] }
  | _ => none }
def superPutsRow : OpenClaim := { program := "ytdcngbkcemaklaa", sum := "02865113add546d522537524e3bb95b5a19ed1e8c37089eda9ae6b25df00ad45", func := "scupper/scupperlaw08.SuperPuts", spec := "superPuts", unfollowed := true, recurses := true, apart := false }
def SuperPutsSaid : Prop := superPutsRow.holds Try.pinned (OpenSpec.ofChange superPutsSpec)

/-- ITS FALSE NEIGHBOUR: 'it returns false'. Refute it at one input. -/
def superPutsWrong : ChangeSpec := { name := "superPuts", fn := fun _ => fun
  | [d1, d2] => { results := [.lit (.bool false)], args := [d1, d2] }
  | _ => none }
def SuperPutsWrongFalsely : Prop := superPutsRow.holds Try.pinned (OpenSpec.ofChange superPutsWrong)

/-- 'scupperlaw08.SuperFinds': WHATEVER THE INPUT: true; the input reads as it did. -/
def superFindsSpec : ChangeSpec := { name := "superFinds", fn := fun _ => fun
  | [d] => { results := [.lit (.bool true)], args := [d] }
  | _ => none }
def superFindsRow : OpenClaim := { program := "ytdcngbkcemaklaa", sum := "02865113add546d522537524e3bb95b5a19ed1e8c37089eda9ae6b25df00ad45", func := "scupper/scupperlaw08.SuperFinds", spec := "superFinds", unfollowed := true, recurses := true, apart := false }
def SuperFindsSaid : Prop := superFindsRow.holds Try.pinned (OpenSpec.ofChange superFindsSpec)

/-- ITS FALSE NEIGHBOUR: 'it returns false'. Refute it at one input. -/
def superFindsWrong : ChangeSpec := { name := "superFinds", fn := fun _ => fun
  | [d] => { results := [.lit (.bool false)], args := [d] }
  | _ => none }
def SuperFindsWrongFalsely : Prop := superFindsRow.holds Try.pinned (OpenSpec.ofChange superFindsWrong)

/-- 'scupperlaw08.SuperMends': WHATEVER THE INPUT: true; the input reads as it did. -/
def superMendsSpec : ChangeSpec := { name := "superMends", fn := fun _ => fun
  | [d] => { results := [.lit (.bool true)], args := [d] }
  | _ => none }
def superMendsRow : OpenClaim := { program := "ytdcngbkcemaklaa", sum := "02865113add546d522537524e3bb95b5a19ed1e8c37089eda9ae6b25df00ad45", func := "scupper/scupperlaw08.SuperMends", spec := "superMends", unfollowed := true, recurses := true, apart := false }
def SuperMendsSaid : Prop := superMendsRow.holds Try.pinned (OpenSpec.ofChange superMendsSpec)

/-- ITS FALSE NEIGHBOUR: 'it returns false'. Refute it at one input. -/
def superMendsWrong : ChangeSpec := { name := "superMends", fn := fun _ => fun
  | [d] => { results := [.lit (.bool false)], args := [d] }
  | _ => none }
def SuperMendsWrongFalsely : Prop := superMendsRow.holds Try.pinned (OpenSpec.ofChange superMendsWrong)

/-- 'scupperlaw08.SuperTwice': WHATEVER THE INPUT: true; the input reads as it did. -/
def superTwiceSpec : ChangeSpec := { name := "superTwice", fn := fun _ => fun
  | [d1, d2, d3] => { results := [.lit (.bool true)], args := [d1, d2, d3] }
  | _ => none }
def superTwiceRow : OpenClaim := { program := "ytdcngbkcemaklaa", sum := "02865113add546d522537524e3bb95b5a19ed1e8c37089eda9ae6b25df00ad45", func := "scupper/scupperlaw08.SuperTwice", spec := "superTwice", unfollowed := true, recurses := true, apart := false }
def SuperTwiceSaid : Prop := superTwiceRow.holds Try.pinned (OpenSpec.ofChange superTwiceSpec)

/-- ITS FALSE NEIGHBOUR: 'it returns false'. Refute it at one input. -/
def superTwiceWrong : ChangeSpec := { name := "superTwice", fn := fun _ => fun
  | [d1, d2, d3] => { results := [.lit (.bool false)], args := [d1, d2, d3] }
  | _ => none }
def SuperTwiceWrongFalsely : Prop := superTwiceRow.holds Try.pinned (OpenSpec.ofChange superTwiceWrong)

/- THE SECOND FORM. 'bulk': how many values and letters a reading holds, each counted each time it is reached (what is shared counts as often as it is met; a slice's spare places count too). A statement '..UptoSaid' is the law's where the arguments, and the package variables that the reading takes, are together of bulk at most 1048576: NARROWER than '..Said'. Prove '..Said' where nothing that the law and all that it calls make is longer than what came in: it says more and counts as full. Else prove '..UptoSaid'. A law counts once. -/
mutual
def uptoBulk {H : Type} : DataW H → Nat
  | .lit (.string bytes) => bytes.length + 1
  | .lit _ => 1
  | .nil => 1
  | .ptr d => uptoBulk d + 1
  | .slice elems spare => uptoBulkAll elems + uptoBulkAll spare + 1
  | .agg parts => uptoBulkAll parts + 1
  | .iface _ d => uptoBulk d + 1
  | .map entries => uptoBulkEntries entries + 1
  | .held _ => 1
def uptoBulkAll {H : Type} : List (DataW H) → Nat
  | [] => 0
  | d :: r => uptoBulk d + uptoBulkAll r
def uptoBulkEntries {H : Type} : List (Lit × DataW H) → Nat
  | [] => 0
  | x :: r => uptoBulkEntry x + uptoBulkEntries r
def uptoBulkEntry {H : Type} : Lit × DataW H → Nat
  | (.string bytes, d) => bytes.length + uptoBulk d + 1
  | (_, d) => uptoBulk d + 1
 end
def uptoSmall : (H : Type) → List (DataW H) → Bool := fun _ ds => decide (uptoBulkAll ds ≤ 1048576)
def OpenSpec.upto (s : _root_.Go.ChangeSpec) : _root_.Go.OpenSpec := { _root_.Go.OpenSpec.ofChange s with cond := some uptoSmall }

/-- 'scupperlaw08.SuperPuts', WHERE WHAT IT READS IS OF BULK AT MOST 1048576: true; the input reads as it did. -/
def superPutsUptoRow : OpenClaim := { program := "ytdcngbkcemaklaa", sum := "02865113add546d522537524e3bb95b5a19ed1e8c37089eda9ae6b25df00ad45", func := "scupper/scupperlaw08.SuperPuts", spec := "superPuts", unfollowed := true, recurses := true, apart := false, narrowed := true }
def SuperPutsUptoSaid : Prop := superPutsUptoRow.holds Try.pinned (OpenSpec.upto superPutsSpec)

/-- 'scupperlaw08.SuperFinds', WHERE WHAT IT READS IS OF BULK AT MOST 1048576: true; the input reads as it did. -/
def superFindsUptoRow : OpenClaim := { program := "ytdcngbkcemaklaa", sum := "02865113add546d522537524e3bb95b5a19ed1e8c37089eda9ae6b25df00ad45", func := "scupper/scupperlaw08.SuperFinds", spec := "superFinds", unfollowed := true, recurses := true, apart := false, narrowed := true }
def SuperFindsUptoSaid : Prop := superFindsUptoRow.holds Try.pinned (OpenSpec.upto superFindsSpec)

/-- 'scupperlaw08.SuperMends', WHERE WHAT IT READS IS OF BULK AT MOST 1048576: true; the input reads as it did. -/
def superMendsUptoRow : OpenClaim := { program := "ytdcngbkcemaklaa", sum := "02865113add546d522537524e3bb95b5a19ed1e8c37089eda9ae6b25df00ad45", func := "scupper/scupperlaw08.SuperMends", spec := "superMends", unfollowed := true, recurses := true, apart := false, narrowed := true }
def SuperMendsUptoSaid : Prop := superMendsUptoRow.holds Try.pinned (OpenSpec.upto superMendsSpec)

/-- 'scupperlaw08.SuperTwice', WHERE WHAT IT READS IS OF BULK AT MOST 1048576: true; the input reads as it did. -/
def superTwiceUptoRow : OpenClaim := { program := "ytdcngbkcemaklaa", sum := "02865113add546d522537524e3bb95b5a19ed1e8c37089eda9ae6b25df00ad45", func := "scupper/scupperlaw08.SuperTwice", spec := "superTwice", unfollowed := true, recurses := true, apart := false, narrowed := true }
def SuperTwiceUptoSaid : Prop := superTwiceUptoRow.holds Try.pinned (OpenSpec.upto superTwiceSpec)

end Rows
end Go.Proofs.Ytdcngbkcemaklaa
