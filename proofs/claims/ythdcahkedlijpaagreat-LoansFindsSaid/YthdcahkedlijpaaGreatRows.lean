/-
  No cell of these rows narrows 'for every input' (looked for: loops, veiled, ifaces, maps, wideKeys, modest, calm, conditions, laid).
  DERIVED. THE GIVEN ROWS OF THIS SEAT. 6 by the template 'for every input the law returns true; each argument reads behind the call as it read before'; 0 by the template 'total and deterministic' (their statements: YthdcahkedlijpaaGreatTotals.lean).
  GIVEN WITH THE SEED: the statements are not yours to turn. If you find one false, say at which input.
  Laid BY PROGRAM, IN A SANDBOX (cutbox-rows.mjs): the forced cells as the released guide's own fill.sh prints them over the translation a45d0921f800ecee… (all of the seat's roots in one cut). By AI agents, Wed Nov 11 2026. No macro, syntax, notation, axiom, sorry.
-/
import Derived.Test.YthdcahkedlijpaaGreatChecked
import GoSem.Claim
import GoSem.ClaimJoined
import GoSem.ClaimMapViews
import Derived.JoinedTies
import Derived.KernelRfl
namespace Go.Proofs.YthdcahkedlijpaaGreat
/- THE CELL 'sum', in the pinned program and in every row, IS THE sha256 OF THE DUMP (.gsa) THAT YthdcahkedlijpaaGreatProg.lean LOADS. Nothing in Lean hashes anything: it is a label: what it is worth is what the hold of that sum in a sandbox is worth. -/
noncomputable def Tryz.pinned : Pinned := { name := "ythdcahkedlijpaagreat", sum := "a45d0921f800ecee5a34ff399a4d1394444d461c31d454b3d923f4ce4ee42e20", checked := Tryz.checked }
namespace Rows
def none {H : Type} : Left H := { results := [], args := [] }

/-- 'pawnshoplaw21.LoansFinds': WHATEVER THE INPUT: true; the input reads as it did. -/
def loansFindsSpec : ChangeSpec := { name := "loansFinds", fn := fun _ => fun
  | [d1, d2] => { results := [.lit (.bool true)], args := [d1, d2] }
  | _ => none }
def loansFindsRow : OpenClaim := { program := "ythdcahkedlijpaagreat", sum := "a45d0921f800ecee5a34ff399a4d1394444d461c31d454b3d923f4ce4ee42e20", func := "pawnshop/pawnshoplaw21.LoansFinds", spec := "loansFinds", inPlace := ["slices.overlaps[int]"], unfollowed := true, recurses := true, apart := false }
def LoansFindsSaid : Prop := loansFindsRow.holds Tryz.pinned (OpenSpec.ofChange loansFindsSpec)

/-- ITS FALSE NEIGHBOUR: 'it returns false'. Refute it at one input. -/
def loansFindsWrong : ChangeSpec := { name := "loansFinds", fn := fun _ => fun
  | [d1, d2] => { results := [.lit (.bool false)], args := [d1, d2] }
  | _ => none }
def LoansFindsWrongFalsely : Prop := loansFindsRow.holds Tryz.pinned (OpenSpec.ofChange loansFindsWrong)

/-- 'pawnshoplaw21.LoansNames': WHATEVER THE INPUT: true; the input reads as it did. -/
def loansNamesSpec : ChangeSpec := { name := "loansNames", fn := fun _ => fun
  | [] => { results := [.lit (.bool true)], args := [] }
  | _ => none }
def loansNamesRow : OpenClaim := { program := "ythdcahkedlijpaagreat", sum := "a45d0921f800ecee5a34ff399a4d1394444d461c31d454b3d923f4ce4ee42e20", func := "pawnshop/pawnshoplaw21.LoansNames", spec := "loansNames", inPlace := ["slices.overlaps[int]"], unfollowed := true, recurses := true, apart := false }
def LoansNamesSaid : Prop := loansNamesRow.holds Tryz.pinned (OpenSpec.ofChange loansNamesSpec)

/-- ITS FALSE NEIGHBOUR: 'it returns false'. Refute it at one input. -/
def loansNamesWrong : ChangeSpec := { name := "loansNames", fn := fun _ => fun
  | [] => { results := [.lit (.bool false)], args := [] }
  | _ => none }
def LoansNamesWrongFalsely : Prop := loansNamesRow.holds Tryz.pinned (OpenSpec.ofChange loansNamesWrong)

/-- 'pawnshoplaw21.LoansOne': WHATEVER THE INPUT: true; the input reads as it did. -/
def loansOneSpec : ChangeSpec := { name := "loansOne", fn := fun _ => fun
  | [d] => { results := [.lit (.bool true)], args := [d] }
  | _ => none }
def loansOneRow : OpenClaim := { program := "ythdcahkedlijpaagreat", sum := "a45d0921f800ecee5a34ff399a4d1394444d461c31d454b3d923f4ce4ee42e20", func := "pawnshop/pawnshoplaw21.LoansOne", spec := "loansOne", inPlace := ["slices.overlaps[int]"], unfollowed := true, recurses := true, apart := false }
def LoansOneSaid : Prop := loansOneRow.holds Tryz.pinned (OpenSpec.ofChange loansOneSpec)

/-- ITS FALSE NEIGHBOUR: 'it returns false'. Refute it at one input. -/
def loansOneWrong : ChangeSpec := { name := "loansOne", fn := fun _ => fun
  | [d] => { results := [.lit (.bool false)], args := [d] }
  | _ => none }
def LoansOneWrongFalsely : Prop := loansOneRow.holds Tryz.pinned (OpenSpec.ofChange loansOneWrong)

/-- 'pawnshoplaw21.LoansKilled': WHATEVER THE INPUT: true; the input reads as it did. -/
def loansKilledSpec : ChangeSpec := { name := "loansKilled", fn := fun _ => fun
  | [d1, d2] => { results := [.lit (.bool true)], args := [d1, d2] }
  | _ => none }
def loansKilledRow : OpenClaim := { program := "ythdcahkedlijpaagreat", sum := "a45d0921f800ecee5a34ff399a4d1394444d461c31d454b3d923f4ce4ee42e20", func := "pawnshop/pawnshoplaw21.LoansKilled", spec := "loansKilled", inPlace := ["slices.overlaps[int]"], unfollowed := true, recurses := true, apart := false }
def LoansKilledSaid : Prop := loansKilledRow.holds Tryz.pinned (OpenSpec.ofChange loansKilledSpec)

/-- ITS FALSE NEIGHBOUR: 'it returns false'. Refute it at one input. -/
def loansKilledWrong : ChangeSpec := { name := "loansKilled", fn := fun _ => fun
  | [d1, d2] => { results := [.lit (.bool false)], args := [d1, d2] }
  | _ => none }
def LoansKilledWrongFalsely : Prop := loansKilledRow.holds Tryz.pinned (OpenSpec.ofChange loansKilledWrong)

/-- 'pawnshoplaw21.LoansTwo': WHATEVER THE INPUT: true; the input reads as it did. -/
def loansTwoSpec : ChangeSpec := { name := "loansTwo", fn := fun _ => fun
  | [d] => { results := [.lit (.bool true)], args := [d] }
  | _ => none }
def loansTwoRow : OpenClaim := { program := "ythdcahkedlijpaagreat", sum := "a45d0921f800ecee5a34ff399a4d1394444d461c31d454b3d923f4ce4ee42e20", func := "pawnshop/pawnshoplaw21.LoansTwo", spec := "loansTwo", inPlace := ["slices.overlaps[int]"], unfollowed := true, recurses := true, apart := false }
def LoansTwoSaid : Prop := loansTwoRow.holds Tryz.pinned (OpenSpec.ofChange loansTwoSpec)

/-- ITS FALSE NEIGHBOUR: 'it returns false'. Refute it at one input. -/
def loansTwoWrong : ChangeSpec := { name := "loansTwo", fn := fun _ => fun
  | [d] => { results := [.lit (.bool false)], args := [d] }
  | _ => none }
def LoansTwoWrongFalsely : Prop := loansTwoRow.holds Tryz.pinned (OpenSpec.ofChange loansTwoWrong)

/-- 'pawnshoplaw21.LoansRegions': WHATEVER THE INPUT: true; the input reads as it did. -/
def loansRegionsSpec : ChangeSpec := { name := "loansRegions", fn := fun _ => fun
  | [d] => { results := [.lit (.bool true)], args := [d] }
  | _ => none }
def loansRegionsRow : OpenClaim := { program := "ythdcahkedlijpaagreat", sum := "a45d0921f800ecee5a34ff399a4d1394444d461c31d454b3d923f4ce4ee42e20", func := "pawnshop/pawnshoplaw21.LoansRegions", spec := "loansRegions", inPlace := ["slices.overlaps[int]"], unfollowed := true, recurses := true, apart := false }
def LoansRegionsSaid : Prop := loansRegionsRow.holds Tryz.pinned (OpenSpec.ofChange loansRegionsSpec)

/-- ITS FALSE NEIGHBOUR: 'it returns false'. Refute it at one input. -/
def loansRegionsWrong : ChangeSpec := { name := "loansRegions", fn := fun _ => fun
  | [d] => { results := [.lit (.bool false)], args := [d] }
  | _ => none }
def LoansRegionsWrongFalsely : Prop := loansRegionsRow.holds Tryz.pinned (OpenSpec.ofChange loansRegionsWrong)

/- THE SECOND FORM. 'bulk': how many values and letters a reading holds, each counted each time it is reached (what is shared counts as often as it is met; a slice's spare places count too). A statement '..UptoSaid' is the law's where the arguments, and the package variables that the reading takes, are together of bulk at most 1048576: NARROWER than '..Said'. Prove '..Said' where nothing that the law and all that it calls make is longer than what came in: it says more and counts as full. Else prove '..UptoSaid'. A law counts once. -/
mutual
def uptoBulk {H : Type} : DataW H → Nat
  | .lit (.string bytes) => bytes.length + 1
  | .lit _ => 1
  | .nil => 1
  | .ptr d => uptoBulk d + 1
  | .slice elems spare => uptoBulkAll elems + uptoBulkAll spare + 1
  | .agg parts => uptoBulkAll parts + 1
  | .iface _ d => uptoBulk d + 1
  | .map entries => uptoBulkEntries entries + 1
  | .held _ => 1
def uptoBulkAll {H : Type} : List (DataW H) → Nat
  | [] => 0
  | d :: r => uptoBulk d + uptoBulkAll r
def uptoBulkEntries {H : Type} : List (Lit × DataW H) → Nat
  | [] => 0
  | x :: r => uptoBulkEntry x + uptoBulkEntries r
def uptoBulkEntry {H : Type} : Lit × DataW H → Nat
  | (.string bytes, d) => bytes.length + uptoBulk d + 1
  | (_, d) => uptoBulk d + 1
 end
def uptoSmall : (H : Type) → List (DataW H) → Bool := fun _ ds => decide (uptoBulkAll ds ≤ 1048576)
def OpenSpec.upto (s : _root_.Go.ChangeSpec) : _root_.Go.OpenSpec := { _root_.Go.OpenSpec.ofChange s with cond := some uptoSmall }

/-- 'pawnshoplaw21.LoansFinds', WHERE WHAT IT READS IS OF BULK AT MOST 1048576: true; the input reads as it did. -/
def loansFindsUptoRow : OpenClaim := { program := "ythdcahkedlijpaagreat", sum := "a45d0921f800ecee5a34ff399a4d1394444d461c31d454b3d923f4ce4ee42e20", func := "pawnshop/pawnshoplaw21.LoansFinds", spec := "loansFinds", inPlace := ["slices.overlaps[int]"], unfollowed := true, recurses := true, apart := false, narrowed := true }
def LoansFindsUptoSaid : Prop := loansFindsUptoRow.holds Tryz.pinned (OpenSpec.upto loansFindsSpec)

/-- 'pawnshoplaw21.LoansNames', WHERE WHAT IT READS IS OF BULK AT MOST 1048576: true; the input reads as it did. -/
def loansNamesUptoRow : OpenClaim := { program := "ythdcahkedlijpaagreat", sum := "a45d0921f800ecee5a34ff399a4d1394444d461c31d454b3d923f4ce4ee42e20", func := "pawnshop/pawnshoplaw21.LoansNames", spec := "loansNames", inPlace := ["slices.overlaps[int]"], unfollowed := true, recurses := true, apart := false, narrowed := true }
def LoansNamesUptoSaid : Prop := loansNamesUptoRow.holds Tryz.pinned (OpenSpec.upto loansNamesSpec)

/-- 'pawnshoplaw21.LoansOne', WHERE WHAT IT READS IS OF BULK AT MOST 1048576: true; the input reads as it did. -/
def loansOneUptoRow : OpenClaim := { program := "ythdcahkedlijpaagreat", sum := "a45d0921f800ecee5a34ff399a4d1394444d461c31d454b3d923f4ce4ee42e20", func := "pawnshop/pawnshoplaw21.LoansOne", spec := "loansOne", inPlace := ["slices.overlaps[int]"], unfollowed := true, recurses := true, apart := false, narrowed := true }
def LoansOneUptoSaid : Prop := loansOneUptoRow.holds Tryz.pinned (OpenSpec.upto loansOneSpec)

/-- 'pawnshoplaw21.LoansKilled', WHERE WHAT IT READS IS OF BULK AT MOST 1048576: true; the input reads as it did. -/
def loansKilledUptoRow : OpenClaim := { program := "ythdcahkedlijpaagreat", sum := "a45d0921f800ecee5a34ff399a4d1394444d461c31d454b3d923f4ce4ee42e20", func := "pawnshop/pawnshoplaw21.LoansKilled", spec := "loansKilled", inPlace := ["slices.overlaps[int]"], unfollowed := true, recurses := true, apart := false, narrowed := true }
def LoansKilledUptoSaid : Prop := loansKilledUptoRow.holds Tryz.pinned (OpenSpec.upto loansKilledSpec)

/-- 'pawnshoplaw21.LoansTwo', WHERE WHAT IT READS IS OF BULK AT MOST 1048576: true; the input reads as it did. -/
def loansTwoUptoRow : OpenClaim := { program := "ythdcahkedlijpaagreat", sum := "a45d0921f800ecee5a34ff399a4d1394444d461c31d454b3d923f4ce4ee42e20", func := "pawnshop/pawnshoplaw21.LoansTwo", spec := "loansTwo", inPlace := ["slices.overlaps[int]"], unfollowed := true, recurses := true, apart := false, narrowed := true }
def LoansTwoUptoSaid : Prop := loansTwoUptoRow.holds Tryz.pinned (OpenSpec.upto loansTwoSpec)

/-- 'pawnshoplaw21.LoansRegions', WHERE WHAT IT READS IS OF BULK AT MOST 1048576: true; the input reads as it did. -/
def loansRegionsUptoRow : OpenClaim := { program := "ythdcahkedlijpaagreat", sum := "a45d0921f800ecee5a34ff399a4d1394444d461c31d454b3d923f4ce4ee42e20", func := "pawnshop/pawnshoplaw21.LoansRegions", spec := "loansRegions", inPlace := ["slices.overlaps[int]"], unfollowed := true, recurses := true, apart := false, narrowed := true }
def LoansRegionsUptoSaid : Prop := loansRegionsUptoRow.holds Tryz.pinned (OpenSpec.upto loansRegionsSpec)

end Rows
end Go.Proofs.YthdcahkedlijpaaGreat
