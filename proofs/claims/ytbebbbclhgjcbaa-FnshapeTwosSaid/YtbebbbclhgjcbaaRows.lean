/-
  No cell of these rows narrows 'for every input' (looked for: loops, veiled, ifaces, maps, wideKeys, modest, calm, conditions, laid).
  DERIVED. THE GIVEN ROWS OF THIS SEAT. 4 by the template 'for every input the law returns true; each argument reads behind the call as it read before'; 0 by the template 'total and deterministic' (their statements: YtbebbbclhgjcbaaTotals.lean).
  GIVEN WITH THE SEED: the statements are not yours to turn. If you find one false, say at which input.
  Laid BY PROGRAM, IN A SANDBOX (cutbox-rows.mjs): the forced cells as the released guide's own fill.sh prints them over the translation d4b5a83a8fc35db5… (all of the seat's roots in one cut). By AI agents, Wed Nov 11 2026. No macro, syntax, notation, axiom, sorry.
-/
import Derived.Test.YtbebbbclhgjcbaaChecked
import GoSem.Claim
import GoSem.ClaimJoined
import GoSem.ClaimMapViews
import Derived.JoinedTies
import Derived.KernelRfl
namespace Go.Proofs.Ytbebbbclhgjcbaa
/- THE CELL 'sum', in the pinned program and in every row, IS THE sha256 OF THE DUMP (.gsa) THAT YtbebbbclhgjcbaaProg.lean LOADS. Nothing in Lean hashes anything: it is a label: what it is worth is what the hold of that sum in a sandbox is worth. -/
noncomputable def Try.pinned : Pinned := { name := "ytbebbbclhgjcbaa", sum := "d4b5a83a8fc35db5829dd467eca6cf0feb05835fb17820e4c462f58d8013184a", checked := Try.checked }
namespace Rows
def none {H : Type} : Left H := { results := [], args := [] }

/-- 'pawnshoplaw07.FnshapeNames': WHATEVER THE INPUT: true; the input reads as it did. -/
def fnshapeNamesSpec : ChangeSpec := { name := "fnshapeNames", fn := fun _ => fun
  | [] => { results := [.lit (.bool true)], args := [] }
  | _ => none }
def fnshapeNamesRow : OpenClaim := { program := "ytbebbbclhgjcbaa", sum := "d4b5a83a8fc35db5829dd467eca6cf0feb05835fb17820e4c462f58d8013184a", func := "pawnshop/pawnshoplaw07.FnshapeNames", spec := "fnshapeNames", unfollowed := true, recurses := true, apart := false }
def FnshapeNamesSaid : Prop := fnshapeNamesRow.holds Try.pinned (OpenSpec.ofChange fnshapeNamesSpec)

/-- ITS FALSE NEIGHBOUR: 'it returns false'. Refute it at one input. -/
def fnshapeNamesWrong : ChangeSpec := { name := "fnshapeNames", fn := fun _ => fun
  | [] => { results := [.lit (.bool false)], args := [] }
  | _ => none }
def FnshapeNamesWrongFalsely : Prop := fnshapeNamesRow.holds Try.pinned (OpenSpec.ofChange fnshapeNamesWrong)

/-- 'pawnshoplaw07.FnshapeBad': WHATEVER THE INPUT: true; the input reads as it did. -/
def fnshapeBadSpec : ChangeSpec := { name := "fnshapeBad", fn := fun _ => fun
  | [d1, d2, d3, d4] => { results := [.lit (.bool true)], args := [d1, d2, d3, d4] }
  | _ => none }
def fnshapeBadRow : OpenClaim := { program := "ytbebbbclhgjcbaa", sum := "d4b5a83a8fc35db5829dd467eca6cf0feb05835fb17820e4c462f58d8013184a", func := "pawnshop/pawnshoplaw07.FnshapeBad", spec := "fnshapeBad", unfollowed := true, recurses := true, apart := false }
def FnshapeBadSaid : Prop := fnshapeBadRow.holds Try.pinned (OpenSpec.ofChange fnshapeBadSpec)

/-- ITS FALSE NEIGHBOUR: 'it returns false'. Refute it at one input. -/
def fnshapeBadWrong : ChangeSpec := { name := "fnshapeBad", fn := fun _ => fun
  | [d1, d2, d3, d4] => { results := [.lit (.bool false)], args := [d1, d2, d3, d4] }
  | _ => none }
def FnshapeBadWrongFalsely : Prop := fnshapeBadRow.holds Try.pinned (OpenSpec.ofChange fnshapeBadWrong)

/-- 'pawnshoplaw07.FnshapeMore': WHATEVER THE INPUT: true; the input reads as it did. -/
def fnshapeMoreSpec : ChangeSpec := { name := "fnshapeMore", fn := fun _ => fun
  | [d1, d2, d3] => { results := [.lit (.bool true)], args := [d1, d2, d3] }
  | _ => none }
def fnshapeMoreRow : OpenClaim := { program := "ytbebbbclhgjcbaa", sum := "d4b5a83a8fc35db5829dd467eca6cf0feb05835fb17820e4c462f58d8013184a", func := "pawnshop/pawnshoplaw07.FnshapeMore", spec := "fnshapeMore", unfollowed := true, recurses := true, apart := false }
def FnshapeMoreSaid : Prop := fnshapeMoreRow.holds Try.pinned (OpenSpec.ofChange fnshapeMoreSpec)

/-- ITS FALSE NEIGHBOUR: 'it returns false'. Refute it at one input. -/
def fnshapeMoreWrong : ChangeSpec := { name := "fnshapeMore", fn := fun _ => fun
  | [d1, d2, d3] => { results := [.lit (.bool false)], args := [d1, d2, d3] }
  | _ => none }
def FnshapeMoreWrongFalsely : Prop := fnshapeMoreRow.holds Try.pinned (OpenSpec.ofChange fnshapeMoreWrong)

/-- 'pawnshoplaw07.FnshapeTwos': WHATEVER THE INPUT: true; the input reads as it did. -/
def fnshapeTwosSpec : ChangeSpec := { name := "fnshapeTwos", fn := fun _ => fun
  | [d] => { results := [.lit (.bool true)], args := [d] }
  | _ => none }
def fnshapeTwosRow : OpenClaim := { program := "ytbebbbclhgjcbaa", sum := "d4b5a83a8fc35db5829dd467eca6cf0feb05835fb17820e4c462f58d8013184a", func := "pawnshop/pawnshoplaw07.FnshapeTwos", spec := "fnshapeTwos", unfollowed := true, recurses := true, apart := false }
def FnshapeTwosSaid : Prop := fnshapeTwosRow.holds Try.pinned (OpenSpec.ofChange fnshapeTwosSpec)

/-- ITS FALSE NEIGHBOUR: 'it returns false'. Refute it at one input. -/
def fnshapeTwosWrong : ChangeSpec := { name := "fnshapeTwos", fn := fun _ => fun
  | [d] => { results := [.lit (.bool false)], args := [d] }
  | _ => none }
def FnshapeTwosWrongFalsely : Prop := fnshapeTwosRow.holds Try.pinned (OpenSpec.ofChange fnshapeTwosWrong)

/- THE SECOND FORM. 'bulk': how many values and letters a reading holds, each counted each time it is reached (what is shared counts as often as it is met; a slice's spare places count too). A statement '..UptoSaid' is the law's where the arguments, and the package variables that the reading takes, are together of bulk at most 1048576: NARROWER than '..Said'. Prove '..Said' where nothing that the law and all that it calls make is longer than what came in: it says more and counts as full. Else prove '..UptoSaid'. A law counts once. -/
mutual
def uptoBulk {H : Type} : DataW H → Nat
  | .lit (.string bytes) => bytes.length + 1
  | .lit _ => 1
  | .nil => 1
  | .ptr d => uptoBulk d + 1
  | .slice elems spare => uptoBulkAll elems + uptoBulkAll spare + 1
  | .agg parts => uptoBulkAll parts + 1
  | .iface _ d => uptoBulk d + 1
  | .map entries => uptoBulkEntries entries + 1
  | .held _ => 1
def uptoBulkAll {H : Type} : List (DataW H) → Nat
  | [] => 0
  | d :: r => uptoBulk d + uptoBulkAll r
def uptoBulkEntries {H : Type} : List (Lit × DataW H) → Nat
  | [] => 0
  | x :: r => uptoBulkEntry x + uptoBulkEntries r
def uptoBulkEntry {H : Type} : Lit × DataW H → Nat
  | (.string bytes, d) => bytes.length + uptoBulk d + 1
  | (_, d) => uptoBulk d + 1
 end
def uptoSmall : (H : Type) → List (DataW H) → Bool := fun _ ds => decide (uptoBulkAll ds ≤ 1048576)
def OpenSpec.upto (s : _root_.Go.ChangeSpec) : _root_.Go.OpenSpec := { _root_.Go.OpenSpec.ofChange s with cond := some uptoSmall }

/-- 'pawnshoplaw07.FnshapeNames', WHERE WHAT IT READS IS OF BULK AT MOST 1048576: true; the input reads as it did. -/
def fnshapeNamesUptoRow : OpenClaim := { program := "ytbebbbclhgjcbaa", sum := "d4b5a83a8fc35db5829dd467eca6cf0feb05835fb17820e4c462f58d8013184a", func := "pawnshop/pawnshoplaw07.FnshapeNames", spec := "fnshapeNames", unfollowed := true, recurses := true, apart := false, narrowed := true }
def FnshapeNamesUptoSaid : Prop := fnshapeNamesUptoRow.holds Try.pinned (OpenSpec.upto fnshapeNamesSpec)

/-- 'pawnshoplaw07.FnshapeBad', WHERE WHAT IT READS IS OF BULK AT MOST 1048576: true; the input reads as it did. -/
def fnshapeBadUptoRow : OpenClaim := { program := "ytbebbbclhgjcbaa", sum := "d4b5a83a8fc35db5829dd467eca6cf0feb05835fb17820e4c462f58d8013184a", func := "pawnshop/pawnshoplaw07.FnshapeBad", spec := "fnshapeBad", unfollowed := true, recurses := true, apart := false, narrowed := true }
def FnshapeBadUptoSaid : Prop := fnshapeBadUptoRow.holds Try.pinned (OpenSpec.upto fnshapeBadSpec)

/-- 'pawnshoplaw07.FnshapeMore', WHERE WHAT IT READS IS OF BULK AT MOST 1048576: true; the input reads as it did. -/
def fnshapeMoreUptoRow : OpenClaim := { program := "ytbebbbclhgjcbaa", sum := "d4b5a83a8fc35db5829dd467eca6cf0feb05835fb17820e4c462f58d8013184a", func := "pawnshop/pawnshoplaw07.FnshapeMore", spec := "fnshapeMore", unfollowed := true, recurses := true, apart := false, narrowed := true }
def FnshapeMoreUptoSaid : Prop := fnshapeMoreUptoRow.holds Try.pinned (OpenSpec.upto fnshapeMoreSpec)

/-- 'pawnshoplaw07.FnshapeTwos', WHERE WHAT IT READS IS OF BULK AT MOST 1048576: true; the input reads as it did. -/
def fnshapeTwosUptoRow : OpenClaim := { program := "ytbebbbclhgjcbaa", sum := "d4b5a83a8fc35db5829dd467eca6cf0feb05835fb17820e4c462f58d8013184a", func := "pawnshop/pawnshoplaw07.FnshapeTwos", spec := "fnshapeTwos", unfollowed := true, recurses := true, apart := false, narrowed := true }
def FnshapeTwosUptoSaid : Prop := fnshapeTwosUptoRow.holds Try.pinned (OpenSpec.upto fnshapeTwosSpec)

end Rows
end Go.Proofs.Ytbebbbclhgjcbaa
