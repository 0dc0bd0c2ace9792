/-
  No cell of these rows narrows 'for every input' (looked for: loops, veiled, ifaces, maps, wideKeys, modest, calm, conditions, laid).
  DERIVED. THE GIVEN ROWS OF THIS SEAT. 3 by the template 'for every input the law returns true; each argument reads behind the call as it read before'; 0 by the template 'total and deterministic' (their statements: YtjbncdpelkpofaaTotals.lean).
  GIVEN WITH THE SEED: the statements are not yours to turn. If you find one false, say at which input.
  Laid BY PROGRAM, IN A SANDBOX (cutbox-rows.mjs): the forced cells as the released guide's own fill.sh prints them over the translation 0a5f80ece91315df… (all of the seat's roots in one cut). By AI agents, Wed Nov 11 2026. No macro, syntax, notation, axiom, sorry.
-/
import Derived.Test.YtjbncdpelkpofaaChecked
import GoSem.Claim
import GoSem.ClaimJoined
import GoSem.ClaimMapViews
import Derived.JoinedTies
import Derived.KernelRfl
namespace Go.Proofs.Ytjbncdpelkpofaa
/- THE CELL 'sum', in the pinned program and in every row, IS THE sha256 OF THE DUMP (.gsa) THAT YtjbncdpelkpofaaProg.lean LOADS. Nothing in Lean hashes anything: it is a label: what it is worth is what the hold of that sum in a sandbox is worth. -/
noncomputable def Try.pinned : Pinned := { name := "ytjbncdpelkpofaa", sum := "0a5f80ece91315dfc35d261c76ae31d71a0ec50c59ef3bad4f4ea7e6386aa90c", checked := Try.checked }
namespace Rows
def none {H : Type} : Left H := { results := [], args := [] }

/-- 'scupperlaw03.PowerEnds': WHATEVER THE INPUT: true; the input reads as it did. -/
def powerEndsSpec : ChangeSpec := { name := "powerEnds", fn := fun _ => fun
  | [d1, d2] => { results := [.lit (.bool true)], args := [d1, d2] }
  | _ => none }
def powerEndsRow : OpenClaim := { program := "ytjbncdpelkpofaa", sum := "0a5f80ece91315dfc35d261c76ae31d71a0ec50c59ef3bad4f4ea7e6386aa90c", func := "scupper/scupperlaw03.PowerEnds", spec := "powerEnds", unfollowed := true, recurses := true, apart := false }
def PowerEndsSaid : Prop := powerEndsRow.holds Try.pinned (OpenSpec.ofChange powerEndsSpec)

/-- ITS FALSE NEIGHBOUR: 'it returns false'. Refute it at one input. -/
def powerEndsWrong : ChangeSpec := { name := "powerEnds", fn := fun _ => fun
  | [d1, d2] => { results := [.lit (.bool false)], args := [d1, d2] }
  | _ => none }
def PowerEndsWrongFalsely : Prop := powerEndsRow.holds Try.pinned (OpenSpec.ofChange powerEndsWrong)

/-- 'scupperlaw03.PowerPlays': WHATEVER THE INPUT: true; the input reads as it did. -/
def powerPlaysSpec : ChangeSpec := { name := "powerPlays", fn := fun _ => fun
  | [d] => { results := [.lit (.bool true)], args := [d] }
  | _ => none }
def powerPlaysRow : OpenClaim := { program := "ytjbncdpelkpofaa", sum := "0a5f80ece91315dfc35d261c76ae31d71a0ec50c59ef3bad4f4ea7e6386aa90c", func := "scupper/scupperlaw03.PowerPlays", spec := "powerPlays", unfollowed := true, recurses := true, apart := false }
def PowerPlaysSaid : Prop := powerPlaysRow.holds Try.pinned (OpenSpec.ofChange powerPlaysSpec)

/-- ITS FALSE NEIGHBOUR: 'it returns false'. Refute it at one input. -/
def powerPlaysWrong : ChangeSpec := { name := "powerPlays", fn := fun _ => fun
  | [d] => { results := [.lit (.bool false)], args := [d] }
  | _ => none }
def PowerPlaysWrongFalsely : Prop := powerPlaysRow.holds Try.pinned (OpenSpec.ofChange powerPlaysWrong)

/-- 'scupperlaw03.PowerVoid': WHATEVER THE INPUT: true; the input reads as it did. -/
def powerVoidSpec : ChangeSpec := { name := "powerVoid", fn := fun _ => fun
  | [d] => { results := [.lit (.bool true)], args := [d] }
  | _ => none }
def powerVoidRow : OpenClaim := { program := "ytjbncdpelkpofaa", sum := "0a5f80ece91315dfc35d261c76ae31d71a0ec50c59ef3bad4f4ea7e6386aa90c", func := "scupper/scupperlaw03.PowerVoid", spec := "powerVoid", unfollowed := true, recurses := true, apart := false }
def PowerVoidSaid : Prop := powerVoidRow.holds Try.pinned (OpenSpec.ofChange powerVoidSpec)

/-- ITS FALSE NEIGHBOUR: 'it returns false'. Refute it at one input. -/
def powerVoidWrong : ChangeSpec := { name := "powerVoid", fn := fun _ => fun
  | [d] => { results := [.lit (.bool false)], args := [d] }
  | _ => none }
def PowerVoidWrongFalsely : Prop := powerVoidRow.holds Try.pinned (OpenSpec.ofChange powerVoidWrong)

/- THE SECOND FORM. 'bulk': how many values and letters a reading holds, each counted each time it is reached (what is shared counts as often as it is met; a slice's spare places count too). A statement '..UptoSaid' is the law's where the arguments, and the package variables that the reading takes, are together of bulk at most 1048576: NARROWER than '..Said'. Prove '..Said' where nothing that the law and all that it calls make is longer than what came in: it says more and counts as full. Else prove '..UptoSaid'. A law counts once. -/
mutual
def uptoBulk {H : Type} : DataW H → Nat
  | .lit (.string bytes) => bytes.length + 1
  | .lit _ => 1
  | .nil => 1
  | .ptr d => uptoBulk d + 1
  | .slice elems spare => uptoBulkAll elems + uptoBulkAll spare + 1
  | .agg parts => uptoBulkAll parts + 1
  | .iface _ d => uptoBulk d + 1
  | .map entries => uptoBulkEntries entries + 1
  | .held _ => 1
def uptoBulkAll {H : Type} : List (DataW H) → Nat
  | [] => 0
  | d :: r => uptoBulk d + uptoBulkAll r
def uptoBulkEntries {H : Type} : List (Lit × DataW H) → Nat
  | [] => 0
  | x :: r => uptoBulkEntry x + uptoBulkEntries r
def uptoBulkEntry {H : Type} : Lit × DataW H → Nat
  | (.string bytes, d) => bytes.length + uptoBulk d + 1
  | (_, d) => uptoBulk d + 1
 end
def uptoSmall : (H : Type) → List (DataW H) → Bool := fun _ ds => decide (uptoBulkAll ds ≤ 1048576)
def OpenSpec.upto (s : _root_.Go.ChangeSpec) : _root_.Go.OpenSpec := { _root_.Go.OpenSpec.ofChange s with cond := some uptoSmall }

/-- 'scupperlaw03.PowerEnds', WHERE WHAT IT READS IS OF BULK AT MOST 1048576: true; the input reads as it did. -/
def powerEndsUptoRow : OpenClaim := { program := "ytjbncdpelkpofaa", sum := "0a5f80ece91315dfc35d261c76ae31d71a0ec50c59ef3bad4f4ea7e6386aa90c", func := "scupper/scupperlaw03.PowerEnds", spec := "powerEnds", unfollowed := true, recurses := true, apart := false, narrowed := true }
def PowerEndsUptoSaid : Prop := powerEndsUptoRow.holds Try.pinned (OpenSpec.upto powerEndsSpec)

/-- 'scupperlaw03.PowerPlays', WHERE WHAT IT READS IS OF BULK AT MOST 1048576: true; the input reads as it did. -/
def powerPlaysUptoRow : OpenClaim := { program := "ytjbncdpelkpofaa", sum := "0a5f80ece91315dfc35d261c76ae31d71a0ec50c59ef3bad4f4ea7e6386aa90c", func := "scupper/scupperlaw03.PowerPlays", spec := "powerPlays", unfollowed := true, recurses := true, apart := false, narrowed := true }
def PowerPlaysUptoSaid : Prop := powerPlaysUptoRow.holds Try.pinned (OpenSpec.upto powerPlaysSpec)

/-- 'scupperlaw03.PowerVoid', WHERE WHAT IT READS IS OF BULK AT MOST 1048576: true; the input reads as it did. -/
def powerVoidUptoRow : OpenClaim := { program := "ytjbncdpelkpofaa", sum := "0a5f80ece91315dfc35d261c76ae31d71a0ec50c59ef3bad4f4ea7e6386aa90c", func := "scupper/scupperlaw03.PowerVoid", spec := "powerVoid", unfollowed := true, recurses := true, apart := false, narrowed := true }
def PowerVoidUptoSaid : Prop := powerVoidUptoRow.holds Try.pinned (OpenSpec.upto powerVoidSpec)

end Rows
end Go.Proofs.Ytjbncdpelkpofaa
